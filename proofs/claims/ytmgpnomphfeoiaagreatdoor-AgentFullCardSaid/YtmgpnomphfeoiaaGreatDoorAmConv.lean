import Derived.Test.YtmgpnomphfeoiaaGreatDoorAmPure4
import Derived.Laws.BytesString
import Derived.Laws.BytesArg
set_option linter.all false
namespace Go.AM
noncomputable section
section
variable {P : Program} {ρ : Ren} {σ : St} {w : World}
theorem cellsOfBytes_eq : ∀ (l : List UInt8), cellsOfBytes l = l.map fun b => .int .u8 b.toNat
  | [] => rfl
  | b :: l => by rw [cellsOfBytes, cellsOfBytes_eq l]; rfl
theorem ints_VRs (l : List UInt8) : VRs ρ (l.map fun b => Value.int .u8 b.toNat) (l.map fun b => Value.int .u8 b.toNat) := by
  induction l with
  | nil => exact VRs.nil ρ
  | cons b l ih => exact VRs.cons (.int _ _) ih
theorem bytesOfCells_some : ∀ {cs : List Value} {bs : List UInt8}, bytesOfCells cs = some bs → ∃ ns : List Int, cs = ns.map (Value.int .u8) ∧ bs = ns.map fun n => UInt8.ofNat n.toNat
  | [], bs, h => by simp [bytesOfCells] at h; subst h; exact ⟨[], rfl, rfl⟩
  | v :: cs, bs, h => by
    unfold bytesOfCells at h
    split at h
    · rename_i e; cases e
    · rename_i n vs e
      cases e
      cases hb : bytesOfCells cs with
      | none => rw [hb] at h; cases h
      | some l =>
        rw [hb] at h; cases h
        obtain ⟨ns, rfl, rfl⟩ := bytesOfCells_some hb
        exact ⟨n :: ns, rfl, rfl⟩
    · cases h
theorem VRs.ints {ns : List Int} {l : List Value} (h : VRs ρ (ns.map (Value.int .u8)) l) : l = ns.map (Value.int .u8) := by
  induction ns generalizing l with
  | nil => exact h.inv_nil
  | cons n ns ih =>
    obtain ⟨y, l', rfl, hy, hl⟩ := h.inv_cons
    rw [hy.inv_int, ih hl]; rfl
/-- What new memory comes to. -/
def MadeR (ρ : Ren) (mk : Mk) (body : Body) (w w' : World) (v' : Value) : Prop :=
  ∃ o p, World.more w w' o ∧ p.b = w.heap.size ∧ BR ρ p w' body ∧ Free p w' ∧ (∀ ρ' i, ρ' i = some p → VR ρ' (mk.val i) v') ∧ ∀ tn, mk.tag = some tn → p.s = 0 ∧ tagOk tn (w'.shape? p.b)
/-- One new block of cells, nothing frozen. -/
theorem MadeR.cells {w' : World} {o : Obj} (hm : World.more w w' o) {cc : Array Value} {e : TypeId} {fr : Nat × Nat} (ho : o = .cells cc e fr) {m : Bool} (hfr : fr.1 = fr.2 ∨ (cc.size ≤ fr.1 ∧ m = true)) {c : List Value} (hc : VRs ρ c (cc.toList.take c.length)) (hl : c.length ≤ cc.size)
    {mk : Mk} {v' : Value} (hv : ∀ ρ' i, ρ' i = some { b := w.heap.size, s := 0, z := cc.size, m } → VR ρ' (mk.val i) v') (ht : ∀ tn, mk.tag = some tn → tn = (e, cc.size) := by intro _ h; cases h) : MadeR ρ mk (.cells c) w w' v' := by
  subst ho
  refine ⟨_, { b := w.heap.size, s := 0, z := cc.size, m }, hm, rfl, ⟨cc, e, fr, World.more_new hm, rfl, by simpa using hl, by simpa using hc⟩, ⟨fun k _ hk => ?_, fun he => ?_⟩, hv, fun tn h => ⟨rfl, cc.size, by rw [ht tn h]; simp only [World.shape?, World.more_new hm], fun _ => by rw [ht tn h]⟩⟩
  · simp only [World.frozen?, World.more_new hm]
    simp at hk ⊢
    rcases hfr with h | ⟨h, _⟩ <;> omega
  · simp only [World.frozen?, World.more_new hm]
    rcases hfr with h | ⟨_, h⟩
    · simp; omega
    · rw [h] at he; cases he
def NewOr (ρ : Ren) (w : World) (r : Result Value) : Out → Prop
  | .val v => ∃ v', r = .ok v' w ∧ VR ρ v v'
  | .new mk body => ∃ v' w', r = .ok v' w' ∧ MadeR ρ mk body w w' v'
  | _ => False
theorem run_convV (hL : Local ρ σ w) {src dst : TypeId} {x x' : Value} {out : Out} (h : convV P σ src dst x = some out) (hx : VR ρ x x') : NewOr ρ w ((Go.convert src dst x').run P w) out := by
  unfold convV at h
  split at h
  · rename_i d k k0 n hs hd
    cases h
    have e := hx.inv_int; subst e
    refine ⟨_, ?_, .int _ _⟩
    simp [Go.convert, run_underlying hs, run_underlying hd, Conv.intToInt]
  · rename_i d k m l c hs hd
    split at h
    · rename_i u hu
      cases h
      obtain ⟨k0, n, rfl, hm⟩ := hx.inv_set
      obtain ⟨v, h1, h2⟩ := setOp_VR (ρ := ρ) hu hm
      cases h1
      refine ⟨_, ?_, h2 _ (.int _ _)⟩
      simp [Go.convert, run_underlying hs, run_underlying hd, Conv.intToInt]
    · cases h
  · rename_i d s hs hd
    cases h
    have e := hx.inv_string; subst e
    refine ⟨_, ?_, .string _⟩
    simp [Go.convert, run_underlying hs, run_underlying hd]
  · rename_i e s hs hd
    have ex := hx.inv_string; subst ex
    split at h
    · rename_i hu
      simp only [Bool.cond_eq_ite] at h
      split at h
      · rename_i hsm
        have hsz := isSmall_le hsm
        cases h
        simp only [NewOr, Go.convert, Sem.run_bind, run_underlying hs, run_underlying hd, run_underlying hu, Result.andThen_ok, Conv.stringToBytes, run_choose, Question.forced, Bool.false_eq_true, if_false, newRow, run_newObj, Sem.run_pure, markStringish]
        generalize hcap : Question.cut (.appendCap s.size 0 e) (w.tape w.drawn (.appendCap s.size 0 e)) = cap
        have hle : s.size ≤ cap := by rw [← hcap]; simp [Question.cut]
        have hmx : cap ≤ 9223372036854775807 := by
          rw [← hcap]
          have hlt := Nat.mod_lt (w.tape w.drawn (.appendCap s.size 0 e)) (show 0 < 2 ^ 63 - s.size by omega)
          simp only [Question.cut]
          omega
        simp only [run_shape, World.shape?, Array.getElem?_push_size]
        refine ⟨_, _, rfl, ?_⟩
        generalize hcc : (Array.map (fun b => Value.int IntKind.u8 ↑b.toNat) s.data ++ Array.replicate (cap - s.size) (Value.int IntKind.u8 0)) = cc
        have hccs : cc.size = cap := by rw [← hcc]; simp; show s.size + (cap - s.size) = cap; omega
        have hcl : (cellsOfBytes s.data.toList).length = s.size := by rw [cellsOfBytes_eq]; simp
        generalize hw' : World.freeze _ _ _ = w'
        have hm : World.more w w' (.cells cc e (cap, cap + 1)) := by
          subst hw'
          refine ⟨?_, ?_, ?_, ?_⟩
          · simp only [World.freeze]
            rw [if_neg (by simp)]
            simp only [hccs]
            apply Array.ext
            · simp
            · intro k h1 h2
              simp only [Array.getElem_modify, Array.getElem_push]
              by_cases hk : k < w.heap.size
              · simp [hk, show ¬ w.heap.size = k by omega]
              · have : k = w.heap.size := by simp at h2; omega
                subst this
                simp
          all_goals (unfold World.freeze; rw [if_neg (by simp)])
        refine MadeR.cells (m := true) hm rfl (.inr ⟨by rw [hccs]; exact Nat.le_refl _, rfl⟩) ?_ (by rw [hcl, hccs]; exact hle) ?_
        · rw [hcl, ← hcc, cellsOfBytes_eq]
          rw [Array.toList_append, List.take_left' (by simp)]
          simpa using ints_VRs s.data.toList
        · intro ρ' i hi
          obtain ⟨j1, j2, j3⟩ := capOf_least' (e := 1) (c := s.size) (by omega)
          have := VR.slice (ρ := ρ') (i := i) (o := 0) (l := s.size) (k := codeAtLeast 1 s.size) (c := cap) hi (by rw [j1]; exact Nat.le_refl _) (by unfold capOk; rw [j2, if_neg (by simp), j1]; exact hle) (fun _ => by rw [j3]; refine ⟨?_, hmx⟩; simp; omega) (by rw [litOf_least]; simp)
          simpa [Mk.val] using this
      · cases h
    · cases h
  · rename_i e l c hs hd
    split at h
    · rename_i hu
      cases h
      refine ⟨.string .empty, ?_, .string _⟩
      cases hx
      simp [Go.convert, run_underlying hs, run_underlying hd, run_underlying hu, Conv.bytesToString]
    · cases h
  · rename_i e a l c hs hd
    split at h
    · rename_i hu
      cases hc : σ.cells a.block a.off l with
      | none => rw [hc] at h; cases h
      | some cs =>
        rw [hc] at h
        simp only at h
        cases hb : bytesOfCells cs with
        | none => rw [hb] at h; cases h
        | some bs =>
          rw [hb] at h; cases h
          obtain ⟨ns, rfl, rfl⟩ := bytesOfCells_some hb
          have fin : ∀ (a' : Addr) (c' : Nat), (loadCells a' l).run P w = .ok (ns.map (Value.int .u8)).toArray w →
              ∃ v', (Go.convert src dst (.slice (some a') l c')).run P w = .ok v' w ∧ VR ρ (.string ⟨⟨ns.map fun n => UInt8.ofNat n.toNat⟩⟩) v' := by
            intro a' c' hl
            refine ⟨_, ?_, .string _⟩
            rw [run_convert_bytes_string w src dst e _ _ _ hs hu hd, run_bytesToString w a' l c' ns hl, foldl_push_bytes]
            simp
          cases hx with
          | slice hr hl hc' hz =>
            obtain ⟨l', g1, g2, g3, g4⟩ := cells_get hL hc hr
            have := g1.ints; subst this
            exact fin _ _ (run_loadCells_at g2 g4)
          | noSlice hk hr =>
            obtain ⟨p, hp⟩ := Option.isSome_iff_exists.1 hr
            obtain ⟨l', g1, g2, g3, g4⟩ := cells_get hL hc hp
            have := g1.ints; subst this
            cases ns with
            | nil => exact fin _ _ rfl
            | cons n ns => simp at g2
    · cases h
  · cases h
end
end
end Go.AM
