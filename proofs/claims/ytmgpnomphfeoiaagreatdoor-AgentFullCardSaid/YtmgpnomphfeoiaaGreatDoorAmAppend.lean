import Derived.Test.YtmgpnomphfeoiaaGreatDoorAmConv
set_option linter.all false
namespace Go.AM
noncomputable section
section
variable {P : Program} {B : Nat} {ρ : Ren} {σ : St} {w : World}
/-- A state behind a writing operation. -/
def Upd (B : Nat) (ρ : Ren) (σ : St) (w : World) (r : Result Value) (v : Value) (σ' : St) : Prop :=
  ∃ ρ' w' v', r = .ok v' w' ∧ VR ρ' v v' ∧ Sim B ρ' σ' w' ∧ Ext ρ σ w ρ' σ' w'
theorem growBy_le (n : Nat) : ∀ (rounds c : Nat), c ≤ 2 * n + 1000 → Builtin.growBy n rounds c ≤ 2 * n + 1000
  | 0, c, h => h
  | r + 1, c, h => by
    unfold Builtin.growBy
    split
    · exact h
    · rename_i hc; exact growBy_le n r _ (by omega)
theorem nextcap_le (n c : Nat) (h : c < n) : Builtin.nextslicecap n c ≤ 2 * n + 1000 := by
  unfold Builtin.nextslicecap
  split
  · omega
  · split
    · omega
    · exact growBy_le n 4 c (by omega)
theorem zeroCells_size (z : Array Value) (n : Nat) : (Builtin.zeroCells z n).size = n * z.size := by unfold Builtin.zeroCells; simp
/-- What is appended, or copied from. -/
theorem run_src (hL : Local ρ σ w) {esz : Nat} {x x' : Value} {new : List Value} {n : Nat} (h : srcCells σ esz x = some (new, n)) (hx : VR ρ x x') :
    ∃ new', VRs ρ new new' ∧ new.length = n * esz ∧ (Builtin.lenOf x').run P w = .ok n w ∧ ∀ w', w'.heap = w.heap → (Builtin.firstCells esz n x').run P w' = .ok ⟨new'⟩ w' := by
  unfold srcCells at h
  split at h
  · cases h
    cases hx
    exact ⟨[], VRs.nil ρ, by simp, rfl, fun _ _ => rfl⟩
  · rename_i a m c
    cases hc : σ.cells a.block a.off (m * esz) with
    | none => rw [hc] at h; cases h
    | some l =>
      rw [hc] at h; cases h
      cases hx with
      | slice hr hl hc' hz =>
        obtain ⟨l', g1, g2, g3, g4⟩ := cells_get hL hc hr
        exact ⟨l', g1, g3, rfl, fun w' hw => by simp only [Builtin.firstCells]; exact run_loadCells_at g2 (fun j v hj => by simp only [World.cell?, hw]; exact g4 j v hj)⟩
      | noSlice hk hr =>
        obtain ⟨p, hp⟩ := Option.isSome_iff_exists.1 hr
        obtain ⟨l', g1, g2, g3, g4⟩ := cells_get hL hc hp
        have : l' = [] := by simpa using g2
        subst this
        refine ⟨[], g1, g3, rfl, fun w' _ => ?_⟩
        simp only [Builtin.firstCells, Nat.zero_mul]; rfl
  · rename_i s
    simp only [Bool.cond_eq_ite, Nat.beq_eq] at h
    split at h
    · rename_i he; subst he
      cases h
      have e := hx.inv_string; subst e
      refine ⟨_, by rw [cellsOfBytes_eq]; exact ints_VRs _, by rw [cellsOfBytes_eq]; simp, rfl, fun w' _ => ?_⟩
      simp only [Builtin.firstCells, Sem.run_pure]
      congr 1
      apply Array.ext'
      have : s.extract 0 s.size = s := by
        apply ByteArray.ext; apply Array.ext'; simp
      rw [this]; simp
    · cases h
  · cases h
theorem elemOf_some {t e : TypeId} (h : elemOf P t = some e) : P.underlying t = some (.slice e) := by
  unfold elemOf at h
  cases hu : P.underlying t with
  | none => rw [hu] at h; cases h
  | some d => rw [hu] at h; cases d <;> simp at h; subst h; rfl
theorem zeroSize_run {e : TypeId} {i : TypeInfo} (hi : P.info? e = some i) {z : Nat} (h : zeroSize i = some z) : ∃ v : Value, (∀ w, (Go.zeroValue e).run P w = .ok v w) ∧ v.cells.size = z := by
  unfold zeroSize at h
  cases hz : i.zero with
  | none => rw [hz] at h; cases h
  | some v =>
    refine ⟨v, fun w => by simp [Go.zeroValue, run_info hi, hz], ?_⟩
    rw [hz] at h
    cases v <;> simp at h <;> subst h <;> rfl
/-- The part of append that makes a new row. -/
def growSem (e : TypeId) (sLen sCap need esz : Nat) (s x : Value) (n : Nat) : Sem Value := do
  let newCap ← choose (.appendCap need sCap e)
  askRoom (newCap * (← typeInfo e).bytes)
  let old ← Builtin.firstCells esz sLen s
  let new ← Builtin.firstCells esz n x
  let rest := Builtin.zeroCells (← Go.zeroValue e).cells (newCap - need)
  pure (.slice (some (← newRow e (old ++ new ++ rest))) need newCap)
theorem run_growSem {e : TypeId} {i : TypeInfo} (hi : P.info? e = some i) {esz : Nat} (hz : zeroSize i = some esz) {sLen sCap n : Nat} {s x : Value} {old new : List Value}
    (ho : ∀ w', w'.heap = w.heap → (Builtin.firstCells esz sLen s).run P w' = .ok ⟨old⟩ w') (hn : ∀ w', w'.heap = w.heap → (Builtin.firstCells esz n x).run P w' = .ok ⟨new⟩ w')
    (hol : old.length = sLen * esz) (hnl : new.length = n * esz) (hsm : sLen + n ≤ 1048576) :
    ∃ cc w' newCap, (growSem e sLen sCap (sLen + n) esz s x n).run P w = .ok (.slice (some ⟨w.heap.size, 0, none⟩) (sLen + n) newCap) w' ∧ World.more w w' (.cells cc e (0, 0)) ∧ (sLen + n ≤ newCap ∧ newCap ≤ 9223372036854775807) ∧ cc.size = newCap * esz ∧ cc.toList.take (old ++ new).length = old ++ new := by
  obtain ⟨z, hz1, hz2⟩ := zeroSize_run hi hz
  generalize hcap : Question.cut (.appendCap (sLen + n) sCap e) (w.tape w.drawn (.appendCap (sLen + n) sCap e)) = newCap
  have hle : sLen + n ≤ newCap := by rw [← hcap]; simp [Question.cut]
  have hmx : newCap ≤ 9223372036854775807 := by
    rw [← hcap]
    have hlt := Nat.mod_lt (w.tape w.drawn (.appendCap (sLen + n) sCap e)) (show 0 < 2 ^ 63 - (sLen + n) by omega)
    simp only [Question.cut]
    omega
  have h1 := ho { w with drawn := w.drawn + 1 } rfl
  have h2 := hn { w with drawn := w.drawn + 1 } rfl
  refine ⟨(⟨old⟩ ++ ⟨new⟩ ++ Builtin.zeroCells z.cells (newCap - (sLen + n)) : Array Value), { w with drawn := w.drawn + 1, heap := w.heap.push (.cells (⟨old⟩ ++ ⟨new⟩ ++ Builtin.zeroCells z.cells (newCap - (sLen + n)) : Array Value) e) }, newCap, ?_, ⟨rfl, rfl, rfl, rfl⟩, ⟨hle, hmx⟩, ?_, ?_⟩
  · simp only [growSem, Sem.run_bind, run_choose, Question.forced, Bool.false_eq_true, if_false, Result.andThen_ok, run_info hi, run_askRoom, hcap, h1, h2, hz1, newRow, run_newObj, Sem.run_pure]
  · simp only [Array.size_append, zeroCells_size, hz2]
    simp only [List.size_toArray, hol, hnl]
    rw [← Nat.add_mul, ← Nat.add_mul]; congr 1; omega
  · rw [Array.toList_append, Array.toList_append, List.take_left' (by simp)]
theorem run_append_alloc {st xt e : TypeId} (hs : P.underlying st = some (.slice e)) {d : TypeDesc} (hx : P.underlying xt = some d) (hd : ∀ k, d ≠ .int k) {esz : Nat} (hsz : sizeOf P e = some esz) {i : TypeInfo} (hi : P.info? e = some i)
    {base : Option Addr} {sLen sCap n : Nat} {x : Value} (hlen : (Builtin.lenOf x).run P w = .ok n w) (hgt : ¬ sLen + n ≤ sCap) (hb1 : (sLen + n) * (i.bytes + 1) ≤ 1048576) (hb2 : i.bytes ≤ 1048576) (ty : TypeId) :
    (Builtin.append_ #[st, xt] ty #[.slice base sLen sCap, x]).run P w = (growSem e sLen sCap (sLen + n) esz (.slice base sLen sCap) x n).run P w := by
  have hdm : (match d with | .int _ => true | _ => false) = false := by cases d <;> first | rfl | exact absurd rfl (hd _)
  have hn : sLen + n ≤ 1048576 := by
    have : sLen + n ≤ (sLen + n) * (i.bytes + 1) := Nat.le_mul_of_pos_right _ (by omega)
    omega
  have h1 : ¬ ((((sLen + n : Nat)) : Int) > IntKind.i64.max ∧ (False ∨ i.bytes = 0)) := by
    rintro ⟨h, _⟩; simp [IntKind.max, IntKind.signed, IntKind.bits] at h; omega
  have h2 : ¬ Builtin.nextslicecap (sLen + n) sCap * i.bytes > 2 ^ 48 := by
    have := nextcap_le (sLen + n) sCap (by omega)
    have h3 : Builtin.nextslicecap (sLen + n) sCap * i.bytes ≤ (2 * 1048576 + 1000) * 1048576 := Nat.mul_le_mul (by omega) hb2
    omega
  unfold Builtin.append_ growSem
  simp only [List.getElem?_toArray, List.getElem?_cons_zero, List.getElem?_cons_succ, Sem.run_bind, run_underlying hs, run_underlying hx, Result.andThen_ok, run_size hsz, Sem.run_pure, hdm, Bool.false_eq_true, if_false, hlen, Sem.run_ite, if_neg hgt, run_info hi]
  cases d <;> first
    | (exact absurd rfl (hd _))
    | (simp only [Bool.false_eq_true, if_false, Sem.run_bind, hlen, Result.andThen_ok, Sem.run_ite, if_neg hgt, run_info hi, Sem.run_pure, Bool.not_false, if_true]
       rw [if_neg h1, if_neg h2])
end
end
end Go.AM
