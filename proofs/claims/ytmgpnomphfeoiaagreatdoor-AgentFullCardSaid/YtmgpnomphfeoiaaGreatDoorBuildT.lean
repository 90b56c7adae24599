import Derived.Test.YtmgpnomphfeoiaaGreatDoorAmInsert
import Derived.Test.YtmgpnomphfeoiaaGreatDoorAmPrim
import Derived.Lib.Builder
import Derived.Lib.UnsafeStr
import Derived.Tactics
import Derived.Tactics2
import Derived.WalkKit
import Derived.Shelf.Abstract
import Derived.Shelf.RegionOpenPlain
import Derived.OwnWalk
import Derived.Laws.Externs
import Derived.Test.YtmgpnomphfeoiaaGreatDoorProg
set_option linter.all false
namespace Go.AM
noncomputable section
/-! ### strings.Builder: what is not walked -/
def bytesEx : List Value → Option (List UInt8)
  | [] => some []
  | .int .u8 (.ofNat n) :: vs => match Nat.ble n 255 with
    | true => match bytesEx vs with | some l => some (UInt8.ofNat n :: l) | none => none
    | false => none
  | _ => none
theorem bytesEx_some : ∀ {cs : List Value} {l : List UInt8}, bytesEx cs = some l → cs = l.map fun x => Value.int .u8 x.toNat
  | [], l, h => by simp [bytesEx] at h; subst h; rfl
  | v :: cs, l, h => by
    unfold bytesEx at h
    split at h
    · rename_i e; cases e
    · rename_i n vs e
      cases e
      split at h
      · rename_i hn
        rw [Nat.ble_eq] at hn
        cases hb : bytesEx cs with
        | none => rw [hb] at h; cases h
        | some l' =>
          rw [hb] at h; cases h
          rw [bytesEx_some hb]
          simp; omega
      · cases h
    · cases h
def hasTag (t : Nat) : List Nat → Bool
  | [] => false
  | x :: xs => match Nat.beq t x with | true => true | false => hasTag t xs
theorem hasTag_mem {t : Nat} : ∀ {l : List Nat}, hasTag t l = true → t ∈ l
  | [], h => by cases h
  | x :: xs, h => by
    unfold hasTag at h
    split at h
    · rename_i e; rw [Nat.beq_eq] at e; subst e; exact List.mem_cons_self
    · exact List.mem_cons_of_mem _ (hasTag_mem h)
/-- (*Builder).copyCheck: at its first use a builder takes its own address. -/
def copyCheckV (ts : List Nat) (σ : St) : Value → Option (Value × St)
  | .pointer (some ⟨i, 0, none⟩) => match σ.get i with
    | some { body := .cells (.pointer q :: _), tag := some (t, 2), shut := false, .. } => match hasTag t ts with
      | true => match q with
        | none => match σ.write i 0 [.pointer (some ⟨i, 0, none⟩)] with | some σ' => some (undefV, σ') | none => none
        | some p => match beqAddr p ⟨i, 0, none⟩ with | true => some (undefV, σ) | false => none
      | false => none
    | _ => none
  | _ => none
/-- (*Builder).String: the bytes; the row that held them is shut off. -/
def builderStrV (bt : Nat) (σ : St) : Value → Option (Value × St)
  | .pointer (some ⟨i, 0, none⟩) => match σ.get i with
    | some { body := .cells (_ :: .slice base n _ :: _), tag := some _, .. } => match base with
      | some ⟨j, 0, none⟩ => match σ.get j with
        | some { body := .cells c, chain, shut := false, tag := some (t, 0) } => match Nat.beq t bt, takeCells c 0 n with
          | true, some (v :: vs) => match Nat.ble n 549755813888, bytesEx (v :: vs) with
            | true, some l => some (.string ⟨⟨l⟩⟩, { heap := dropAll σ.heap (j :: chain), next := σ.next })
            | _, _ => none
          | _, _ => none
        | _ => none
      | _ => none
    | _ => none
  | _ => none
theorem World.freeze_parts (w : World) (a : Addr) (n : Nat) : (w.freeze a n).heap.size = w.heap.size ∧ (∀ b, b ≠ a.block → (w.freeze a n).heap[b]? = w.heap[b]?) ∧ (w.freeze a n).os = w.os ∧ (w.freeze a n).output = w.output ∧ (w.freeze a n).tape = w.tape := by
  unfold World.freeze
  split
  · exact ⟨rfl, fun _ _ => rfl, rfl, rfl, rfl⟩
  · exact ⟨by simp, fun b hb => by simp [Array.getElem?_modify, Ne.symm hb], rfl, rfl, rfl⟩
/-- Blocks are gone; only the world's block that they lay in has turned. -/
theorem Sim.shutOff {B : Nat} {ρ : Ren} {σ : St} {w w' : World} (h : Sim B ρ σ w) {i : Nat} {blk : Blk} (hg : σ.get i = some blk) (hsh : blk.shut = false) {p : Pl} (hp : ρ i = some p)
    (hs : w'.heap.size = w.heap.size) (hh : ∀ b, b ≠ p.b → w'.heap[b]? = w.heap[b]?) (ho : w'.os = w.os) (hu : w'.output = w.output) (ht : w'.tape = w.tape) :
    Sim B ρ { heap := dropAll σ.heap (i :: blk.chain), next := σ.next } w' ∧ Ext ρ σ w ρ { heap := dropAll σ.heap (i :: blk.chain), next := σ.next } w' := by
  have old : ∀ {j b}, ({ heap := dropAll σ.heap (i :: blk.chain), next := σ.next } : St).get j = some b → j ∉ i :: blk.chain ∧ σ.get j = some b := fun hj => dropAll_mem hj
  have away : ∀ j b q, ({ heap := dropAll σ.heap (i :: blk.chain), next := σ.next } : St).get j = some b → ρ j = some q → q.b ≠ p.b := by
    intro j b q hj hq e
    obtain ⟨h1, h2⟩ := old hj
    have hne : j ≠ i := fun e' => h1 (e' ▸ List.mem_cons_self ..)
    rcases h.apart j i b _ q p h2 hg hq hp e hne with ⟨hm, _⟩ | ⟨hm, _⟩
    · exact h1 (List.mem_cons_of_mem _ hm)
    · have := h.below i j _ b hg h2 hm; rw [hsh] at this; cases this
  refine ⟨(h.drop (i :: blk.chain)).off hs hh away, ?_⟩
  exact {
    ren := Ren.le_refl _, size := by rw [hs]; exact Nat.le_refl _, os := ho, output := hu, tape := ht, next := Nat.le_refl _
    keep := fun b hb hn => hh b (fun e => hn i _ p hg hsh hp e.symm)
    shutAll := fun j b q hj hq => .inr ⟨j, b, q, (old hj).2, hq, rfl⟩
    shutOpen := fun j b q hj hs hq => .inr ⟨j, b, q, (old hj).2, hs, hq, rfl⟩
    lives := fun j b hj => .inr ⟨b, (old hj).2⟩
    chains := fun j bj k hj hk => .inr ⟨j, bj, (old hj).2, .inr hk⟩
    news := fun _ _ h => .inl h }
end
end Go.AM
namespace Go.Proofs
open Go.RowKit
def lieTags : List Nat := [136, 138]
theorem lies_ok : ∀ t ∈ lieTags, liesAt Tryz.prog Tryz.prog.depth t (2 / Tryz.prog.cellsOf t) 0 136 1 = true := by
  intro t ht
  simp only [lieTags, List.mem_cons, List.not_mem_nil, or_false] at ht
  rcases ht with rfl | rfl <;> kernel_rfl
theorem size_builder : (Tryz.prog.info? 136).map (·.size) = some 2 := by kernel_rfl
set_option maxHeartbeats 1000000 in
set_option maxRecDepth 100000 in
theorem copyCheck_used (b : Nat) (w : World) (h0 : w.cell? ⟨b, 0, none⟩ = some (.pointer (some ⟨b, 0, none⟩))) :
    Calls Tryz.prog 106 #[.pointer (some ⟨b, 0, none⟩)] w fun e w' => e = .returned (.tuple #[]) ∧ w' = w := by
  obtain ⟨j, hj, _⟩ := Option.map_eq_some_iff.1 size_builder
  go_enter Tryz.func106, Tryz.ntmps106
  go_wp2
  rw [Lib.run_neq_ptr_same w _ Tryz.underlying134 hj]
  go_wp2
  go_end0
  exact ⟨rfl, rfl⟩
set_option maxHeartbeats 1000000 in
set_option maxRecDepth 100000 in
theorem copyCheck_fresh (t b : Nat) (ht : t ∈ lieTags) (w : World) (h0 : w.cell? ⟨b, 0, none⟩ = some (.pointer none)) (hsh : w.shape? b = some (t, 2)) (hfz : w.frozen? ⟨b, 0, none⟩ = false) :
    Calls Tryz.prog 106 #[.pointer (some ⟨b, 0, none⟩)] w fun e w' => e = .returned (.tuple #[]) ∧ w' = w.setCell ⟨b, 0, none⟩ (.pointer (some ⟨b, 0, none⟩)) := by
  obtain ⟨j, hj, hjs⟩ := Option.map_eq_some_iff.1 size_builder
  go_enter Tryz.func106, Tryz.ntmps106
  go_wp2
  rw [Lib.run_to_unsafe w ⟨b, 0, none⟩ Tryz.underlying134 Tryz.underlying253 hj (by rw [hjs]; decide) hsh (Nat.zero_lt_succ 1)]
  simp only [Result.andThen]
  rw [Oper.upon_value]
  go_wp2
  rw [run_callFunc_extern Tryz.func152 (by kernel_rfl) (by kernel_rfl) (by kernel_rfl) (e := Extern.AbiNoEscape.same) (by kernel_rfl)]
  rw [Lib.run_noEscape]
  simp only [Result.andThen]
  rw [Oper.upon_value]
  go_wp2
  rw [Lib.run_from_unsafe w ⟨b, 0, none⟩ Tryz.underlying253 Tryz.underlying134 hj hsh (lies_ok t ht)]
  simp only [Result.andThen]
  rw [Oper.upon_value]
  go_wp2
  go_end0
  exact ⟨rfl, rfl⟩
set_option maxHeartbeats 2000000 in
set_option maxRecDepth 100000 in
theorem builder_String (b g size cap : Nat) (l : List UInt8) (w : World) (h0 : l ≠ []) (h1 : w.cell? ⟨b, 1, none⟩ = some (.slice (some ⟨g, 0, none⟩) l.length cap)) (hc0 : 0 < cap)
    (hsh : w.shape? g = some (5, size)) (hn : l.length ≤ size) (h63 : l.length ≤ 9223372036854775807) (hcell : ∀ j x, l[j]? = some x → w.cell? ⟨g, j, none⟩ = some (.int .u8 x.toNat)) :
    Calls Tryz.prog 57 #[.pointer (some ⟨b, 0, none⟩)] w fun e w' => e = .returned (.string ⟨l.toArray⟩) ∧ w' = w.drew.freeze ⟨g, 0, none⟩ l.length := by
  have c1 : w.drew.cell? ⟨b, 1, none⟩ = some (.slice (some ⟨g, 0, none⟩) l.length cap) := h1
  have hSD : (Builtin.unsafeSliceData_ #[43] 196 #[.slice (some ⟨g, 0, none⟩) l.length cap]).run Tryz.prog w.drew = .ok (.pointer (some ⟨g, 0, none⟩)) w.drew :=
    Lib.run_unsafeSliceData_row _ _ _ _ _ _ (by omega)
  have hUS : (Builtin.unsafeString_ #[196, 3] 9 #[.pointer (some ⟨g, 0, none⟩), .int .i64 l.length]).run Tryz.prog w.drew = .ok (.string ⟨l.toArray⟩) (w.drew.freeze ⟨g, 0, none⟩ l.length) := by
    refine Lib.run_unsafeString_row w.drew 196 3 9 5 Tryz.underlying196 (by kernel_rfl) g size hsh l h0 hn h63 ?_
    intro j x hx
    have := hcell j x hx
    simpa [AM.addr_add] using this
  have mixed : Tryz.prog.follows .mixedOrders = true := by kernel_rfl
  go_enter Tryz.func57, Tryz.ntmps57
  go_wp2
  go_region_o
  all_goals (go_wp2; go_ret; exact ⟨rfl, rfl⟩)
end Go.Proofs
namespace Go.AM
open Go.Proofs Go.RowKit
theorem one_argB {ρ : Ren} {f : Value} {args' : Array Value} (h : VRs ρ [f] args'.toList) : ∃ f', args' = #[f'] ∧ VR ρ f f' := by
  obtain ⟨f', l, e1, hf, hl⟩ := h.inv_cons
  obtain rfl := hl.inv_nil
  exact ⟨f', by cases args'; simp at e1; simp [e1], hf⟩
theorem copyCheck_ok {B : Nat} {σ σ' : St} {a v : Value} (h : copyCheckV lieTags σ a = some (v, σ')) {ρ : Ren} {w : World} {args' : Array Value} (hS : Sim B ρ σ w) (hv : VRs ρ [a] args'.toList) :
    Calls Tryz.prog 106 args' w (CPost B ρ σ w (.ret v σ')) := by
  obtain ⟨a', rfl, ha⟩ := one_argB hv
  unfold copyCheckV at h
  split at h
  case h_2 => cases h
  rename_i i
  split at h
  case h_2 => cases h
  rename_i q rest chain t hg
  split at h
  case h_2 => cases h
  rename_i ht
  cases ha with
  | ptr hr =>
  rename_i p
  obtain ⟨hs0, n, hsh, hn2⟩ := hS.tags i _ p _ hg hr rfl
  have hn : n = 2 := hn2 (by simp)
  subst hn
  have hcl : σ.cells i 0 1 = some [.pointer q] := by unfold St.cells; rw [hg]; exact (takeCells_iff _ _ _ _).2 ⟨by simp, by simp⟩
  obtain ⟨l', o1, o2, o3, o4⟩ := cells_get hS.local hcl hr
  obtain ⟨x', l2, rfl, hx, hl2⟩ := o1.inv_cons
  have h0 := o4 0 x' rfl
  rw [hs0] at h0 ⊢
  simp only [Nat.add_zero, Nat.zero_add] at h0 ⊢
  split at h
  · cases hw : σ.write i 0 [.pointer (some ⟨i, 0, none⟩)] with
    | none => rw [hw] at h; cases h
    | some σ2 =>
      rw [hw] at h
      cases h
      cases hx
      have hfz : w.frozen? ⟨p.b, 0, none⟩ = false := by
        obtain ⟨_, p2, hp2, hbr⟩ := hS.live i _ hg
        rw [hr] at hp2; cases hp2
        obtain ⟨cc, e, fr, g1, g2, g3, g4⟩ := hbr
        simp at g3
        exact (hS.free i _ p hg hr rfl).1 0 (by omega) (by omega)
      obtain ⟨_, k1, k2⟩ := hS.write (o := 0) (VRs.cons (VR.ptr (o := 0) hr) (VRs.nil ρ)) hw hr
      refine (copyCheck_fresh t p.b (hasTag_mem ht) w h0 hsh hfz).mono ?_
      rintro e w' ⟨rfl, rfl⟩
      rw [hs0] at k1 k2
      exact ⟨ρ, VR.undef ρ, k1, k2⟩
  · rename_i pp
    split at h
    case h_2 => cases h
    rename_i hb
    cases h
    have := beqAddr_eq hb
    subst this
    cases hx with
    | ptr hr2 =>
      rw [hr] at hr2; cases hr2
      rw [hs0] at h0
      refine (copyCheck_used p.b w h0).mono ?_
      rintro e w' ⟨rfl, rfl⟩
      exact ⟨ρ, VR.undef ρ, hS, Ext.refl _ _ _⟩
theorem builderStr_ok {B : Nat} {σ σ' : St} {a v : Value} (h : builderStrV 5 σ a = some (v, σ')) {ρ : Ren} {w : World} {args' : Array Value} (hS : Sim B ρ σ w) (hv : VRs ρ [a] args'.toList) :
    Calls Tryz.prog 57 args' w (CPost B ρ σ w (.ret v σ')) := by
  obtain ⟨a', rfl, ha⟩ := one_argB hv
  unfold builderStrV at h
  split at h
  case h_2 => cases h
  rename_i i
  split at h
  case h_2 => cases h
  rename_i y base n k rest chain0 sh0 tg hg
  split at h
  case h_2 => cases h
  rename_i j
  split at h
  case h_2 => cases h
  rename_i c chain t hgj
  split at h
  case h_2 => cases h
  rename_i v0 vs ht htk
  split at h
  case h_2 => cases h
  rename_i l hnb hb
  cases h
  rw [Nat.beq_eq] at ht
  rw [Nat.ble_eq] at hnb
  subst ht
  have hbe := bytesEx_some hb
  cases ha with
  | ptr hr =>
  rename_i p
  obtain ⟨hs0, _⟩ := hS.tags i _ p _ hg hr rfl
  have hcl : σ.cells i 1 1 = some [.slice (some ⟨j, 0, none⟩) n k] := by unfold St.cells; rw [hg]; exact (takeCells_iff _ _ _ _).2 ⟨by simp, by simp⟩
  obtain ⟨l1, o1, o2, o3, o4⟩ := cells_get hS.local hcl hr
  obtain ⟨x', l2, rfl, hx, hl2⟩ := o1.inv_cons
  have h1 := o4 0 x' rfl
  rw [hs0] at h1 ⊢
  simp only [Nat.add_zero, Nat.zero_add] at h1 ⊢
  have hcj : σ.cells j 0 n = some (v0 :: vs) := by unfold St.cells; rw [hgj]; exact htk
  have hlen : (v0 :: vs).length = l.length := by rw [hbe]; simp
  have hne : l ≠ [] := by intro e; subst e; simp at hlen
  cases hx with
  | noSlice hk hh => 
    obtain ⟨l3, p1, p2, p3, p4⟩ := cells_get hS.local hcj (Option.isSome_iff_exists.1 hh).choose_spec
    simp at p3
  | slice hrj hl hc hz hm =>
    rename_i cap q
    obtain ⟨l3, p1, p2, p3, p4⟩ := cells_get hS.local hcj hrj
    have hnl : n = l.length := by rw [← hlen]; exact p3.symm
    obtain ⟨hq0, size, hshj, _⟩ := hS.tags j _ q _ hgj hrj rfl
    have hcell : ∀ jj x, l[jj]? = some x → w.cell? ⟨q.b, jj, none⟩ = some (.int .u8 x.toNat) := by
      intro jj x hx
      have hlt : jj < l.length := (List.getElem?_eq_some_iff.1 hx).1
      have e1 : (v0 :: vs)[jj]? = some (.int .u8 x.toNat) := by rw [hbe]; simp [hx]
      obtain ⟨yv, hy⟩ : ∃ yv, l3[jj]? = some yv := ⟨_, List.getElem?_eq_getElem (by omega)⟩
      have e2 := p1.2 jj _ _ e1 hy
      have e3 := p4 jj yv hy
      rw [hq0] at e3
      simp only [Nat.zero_add] at e3
      rw [e3, e2.inv_int]
    have hlp : 0 < l.length := by cases l with | nil => exact absurd rfl hne | cons _ _ => simp
    have hcap : 0 < cap := by
      unfold capOk at hc
      split at hc <;> omega
    have hsz : l.length ≤ size := by
      have hx : l[l.length - 1]? = some (l[l.length - 1]'(by omega)) := List.getElem?_eq_getElem (by omega)
      obtain ⟨e, m, g1, g2, _⟩ := World.shape?_of_cell? (hcell _ _ hx)
      rw [hshj] at g1; cases g1
      simp at g2; omega
    rw [hq0] at h1
    simp only [Nat.zero_add, Nat.add_zero] at h1
    rw [hnl] at h1
    refine (builder_String p.b q.b size cap l w hne h1 hcap hshj hsz (by omega) hcell).mono ?_
    rintro e w' ⟨rfl, rfl⟩
    obtain ⟨f1, f2, f3, f4, f5⟩ := World.freeze_parts w.drew ⟨q.b, 0, none⟩ l.length
    obtain ⟨k1, k2⟩ := hS.shutOff hgj rfl hrj (w' := w.drew.freeze ⟨q.b, 0, none⟩ l.length) f1 (fun b hb => f2 b hb) f3 f4 f5
    exact ⟨ρ, VR.string _, k1, k2⟩
end Go.AM
