import Derived.Test.YtmgpnomphfeoiaaGreatDoorAmExec
import Derived.Test.YtmgpnomphfeoiaaGreatDoorSortB
import Derived.Test.YtmgpnomphfeoiaaGreatDoorKeysO
set_option linter.all false
namespace Go.AM
noncomputable section
open Go.RowKit (Below)
open Go.Proofs (encStr)
/-! ### slices.Sorted(maps.Keys(m)), slices.Sorted(slices.Values(l)) in the abstract -/
def keyBytes : List (Value × Value) → Option (List (List UInt8))
  | [] => some []
  | (.string s, _) :: es => match isSmall s.data.toList.length with
    | true => match keyBytes es with | some l => some (s.data.toList :: l) | none => none
    | false => none
  | _ => none
def insB (k : List UInt8) : List (List UInt8) → List (List UInt8)
  | [] => [k]
  | x :: xs => match bytesLt x k with | true => x :: insB k xs | false => k :: x :: xs
def sortB : List (List UInt8) → List (List UInt8)
  | [] => []
  | x :: xs => insB x (sortB xs)
def intsOf : List Value → Option (List Int)
  | [] => some []
  | .int .i64 n :: vs => match intsOf vs with | some l => some (n :: l) | none => none
  | _ => none
def insI (k : Int) : List Int → List Int
  | [] => [k]
  | x :: xs => match decide (x < k) with | true => x :: insI k xs | false => k :: x :: xs
def sortI : List Int → List Int
  | [] => []
  | x :: xs => insI x (sortI xs)
def strRow (l : List (List UInt8)) : List Value := l.map fun b => .string ⟨⟨b⟩⟩
def intRow (l : List Int) : List Value := l.map fun n => .int .i64 n
/-- A new slice. -/
def madeOf (σ : St) (l : List Value) : Value × St := match l with
  | [] => (.slice none 0 1, σ)
  | l => (.slice (some ⟨σ.next, 0, none⟩) l.length (codeAtLeast 1 l.length), σ.push (.cells l))
/-- What the closure of an iterator has captured: one box. -/
def boxOf (gs : List Nat) (σ : St) (f : Value) : Option Value := match f with
  | .func (.func g) first cap => match gs.elem g, first.toList, cap.toList with
    | true, [], [.pointer (some ⟨b, o, none⟩)] => match σ.cells b o 1 with
      | some [v] => some v
      | _ => none
    | _, _, _ => none
  | _ => none
def keysIn (σ : St) : Value → Option (List (List UInt8))
  | .map none => some []
  | .map (some r) => match σ.get r with
    | some { body := .map es, .. } => match isSmall es.length with | true => keyBytes es | false => none
    | _ => none
  | _ => none
def intsIn (σ : St) : Value → Option (List Int)
  | .slice none l _ => match Nat.beq l 0 with | true => some [] | false => none
  | .slice (some ⟨b, o, none⟩) n _ => match isSmall n with
    | true => match σ.cells b o n with | some l => intsOf l | none => none
    | false => none
  | _ => none
def sortedKeys (gs : List Nat) (σ : St) (f : Value) : Option (Value × St) := match boxOf gs σ f with
  | some v => match keysIn σ v with | some l => some (madeOf σ (strRow (sortB l))) | none => none
  | none => none
def sortedInts (gs : List Nat) (σ : St) (f : Value) : Option (Value × St) := match boxOf gs σ f with
  | some v => match intsIn σ v with | some l => some (madeOf σ (intRow (sortI l))) | none => none
  | none => none
/-- slices.Collect(maps.Keys(m)), where m has one entry at most. -/
def oneKey (gs : List Nat) (σ : St) (f : Value) : Option (Value × St) := match boxOf gs σ f with
  | some v => match keysIn σ v with
    | some [] => some (madeOf σ [])
    | some [x] => some (madeOf σ (strRow [x]))
    | _ => none
  | none => none

/-! ### sorting -/
theorem bytesLt_lt : ∀ (x y : List UInt8), bytesLt x y = true ↔ x < y
  | x, [] => by cases x <;> simp [bytesLt]
  | [], _ :: _ => by simp [bytesLt]
  | a :: x, b :: y => by
    simp only [bytesLt, List.cons_lt_cons_iff, Bool.cond_eq_ite, Nat.blt_eq, Nat.beq_eq]
    have e1 : a < b ↔ a.toNat < b.toNat := UInt8.lt_iff_toNat_lt
    have e2 : a = b ↔ a.toNat = b.toNat := UInt8.toNat_inj.symm
    rw [e1, e2]
    have ih := bytesLt_lt x y
    by_cases h : a.toNat < b.toNat
    · simp [h]
    · simp only [h, if_false, false_or]
      by_cases h2 : a.toNat = b.toNat
      · simp [h2, ih]
      · simp [h2]
theorem insB_perm (k : List UInt8) : ∀ l, (insB k l).Perm (k :: l)
  | [] => by simp [insB]
  | x :: xs => by
    simp only [insB]
    split
    · exact ((insB_perm k xs).cons x).trans (List.Perm.swap k x xs)
    · exact List.Perm.refl _
theorem sortB_perm : ∀ l, (sortB l).Perm l
  | [] => List.Perm.refl _
  | x :: xs => (insB_perm x _).trans ((sortB_perm xs).cons x)
theorem insB_pw (k : List UInt8) : ∀ l, l.Pairwise (· ≤ ·) → (insB k l).Pairwise (· ≤ ·)
  | [], _ => by simp [insB]
  | x :: xs, h => by
    obtain ⟨h1, h2⟩ := List.pairwise_cons.1 h
    simp only [insB]
    split
    · rename_i hx
      refine List.pairwise_cons.2 ⟨fun y hy => ?_, insB_pw k xs h2⟩
      have := (insB_perm k xs).mem_iff.1 hy
      rcases List.mem_cons.1 this with rfl | hy
      · exact List.le_of_lt ((bytesLt_lt _ _).1 hx)
      · exact h1 y hy
    · rename_i hx
      have hkx : k ≤ x := List.not_lt.1 fun h => by rw [← bytesLt_lt] at h; rw [h] at hx; cases hx
      refine List.pairwise_cons.2 ⟨fun y hy => ?_, h⟩
      rcases List.mem_cons.1 hy with rfl | hy
      · exact hkx
      · exact List.le_trans hkx (h1 y hy)
theorem sortB_pw : ∀ l, (sortB l).Pairwise (· ≤ ·)
  | [] => List.Pairwise.nil
  | x :: xs => insB_pw x _ (sortB_pw xs)
theorem sortB_eq {l ss : List (List UInt8)} (h : ss.Perm l) : ss.mergeSort (fun x y => decide (x ≤ y)) = sortB l := by
  have tr : ∀ a b c : List UInt8, decide (a ≤ b) = true → decide (b ≤ c) = true → decide (a ≤ c) = true := fun a b c h1 h2 => by simp only [decide_eq_true_eq] at *; exact List.le_trans h1 h2
  have to : ∀ a b : List UInt8, (decide (a ≤ b) || decide (b ≤ a)) = true := fun a b => by simp only [Bool.or_eq_true, decide_eq_true_eq]; exact List.le_total a b
  refine List.Perm.eq_of_pairwise (le := fun a b => a ≤ b) (fun a b _ _ h1 h2 => List.le_antisymm h1 h2) ?_ (sortB_pw l) (((List.mergeSort_perm ss _).trans h).trans (sortB_perm l).symm)
  exact (List.pairwise_mergeSort tr to ss).imp fun h => by simpa using h
theorem insI_perm (k : Int) : ∀ l, (insI k l).Perm (k :: l)
  | [] => by simp [insI]
  | x :: xs => by
    simp only [insI]
    split
    · exact ((insI_perm k xs).cons x).trans (List.Perm.swap k x xs)
    · exact List.Perm.refl _
theorem sortI_perm : ∀ l, (sortI l).Perm l
  | [] => List.Perm.refl _
  | x :: xs => (insI_perm x _).trans ((sortI_perm xs).cons x)
theorem insI_pw (k : Int) : ∀ l, l.Pairwise (· ≤ ·) → (insI k l).Pairwise (· ≤ ·)
  | [], _ => by simp [insI]
  | x :: xs, h => by
    obtain ⟨h1, h2⟩ := List.pairwise_cons.1 h
    simp only [insI]
    split
    · rename_i hx
      refine List.pairwise_cons.2 ⟨fun y hy => ?_, insI_pw k xs h2⟩
      have := (insI_perm k xs).mem_iff.1 hy
      rcases List.mem_cons.1 this with rfl | hy
      · have := of_decide_eq_true hx; omega
      · exact h1 y hy
    · rename_i hx
      have hkx : k ≤ x := by have := of_decide_eq_false hx; omega
      refine List.pairwise_cons.2 ⟨fun y hy => ?_, h⟩
      rcases List.mem_cons.1 hy with rfl | hy
      · exact hkx
      · exact Int.le_trans hkx (h1 y hy)
theorem sortI_pw : ∀ l, (sortI l).Pairwise (· ≤ ·)
  | [] => List.Pairwise.nil
  | x :: xs => insI_pw x _ (sortI_pw xs)
theorem sortI_eq {l ss : List Int} (h : ss.Perm l) : ss.mergeSort (fun x y => decide (x ≤ y)) = sortI l := by
  have tr : ∀ a b c : Int, decide (a ≤ b) = true → decide (b ≤ c) = true → decide (a ≤ c) = true := fun a b c h1 h2 => by simp only [decide_eq_true_eq] at *; omega
  have to : ∀ a b : Int, (decide (a ≤ b) || decide (b ≤ a)) = true := fun a b => by simp only [Bool.or_eq_true, decide_eq_true_eq]; omega
  refine List.Perm.eq_of_pairwise (le := fun a b => a ≤ b) (fun a b _ _ h1 h2 => by omega) ?_ (sortI_pw l) (((List.mergeSort_perm ss _).trans h).trans (sortI_perm l).symm)
  exact (List.pairwise_mergeSort tr to ss).imp fun h => by simpa using h

/-! ### worlds in which nothing that lay there has turned -/
theorem Sim.laterB {B : Nat} {ρ : Ren} {σ : St} {w w' : World} (h : Sim B ρ σ w) (hb : Below w.heap.size w w') : Sim B ρ σ w' ∧ Ext ρ σ w ρ σ w' :=
  ⟨h.later (Ren.le_refl _) hb.size (fun b hb' => hb.block b hb') (fun _ _ hp => .inl hp),
   { Ext.refl ρ σ w with size := hb.size, os := hb.os, output := hb.output, tape := hb.tape, keep := fun b hb' _ => hb.block b hb' }⟩
theorem Sim.pushB {B : Nat} {ρ : Ren} {σ : St} {w w' : World} (h : Sim B ρ σ w) (hB : B ≤ w.heap.size) (hb : Below w.heap.size w w') {body : Body} {p : Pl} (hp : w.heap.size ≤ p.b) (hlt : p.b < w'.heap.size)
    (hbr : BR (ρ.put σ.next p) p w' body) (hfr : Free p w') :
    Sim B (ρ.put σ.next p) (σ.push body) w' ∧ Ext ρ σ w (ρ.put σ.next p) (σ.push body) w' := by
  obtain ⟨f1, f2, f3⟩ := h.fresh (Nat.le_refl σ.next)
  have hle := Ren.put_le (p := p) f1
  have h0 : Sim B ρ { σ with next := σ.next + 1 } w :=
    { live := fun i blk hi => let ⟨a, b⟩ := h.live i blk hi; ⟨Nat.lt_succ_of_lt a, b⟩
      dom := fun i q hq => let ⟨a, b⟩ := h.dom i q hq; ⟨Nat.lt_succ_of_lt a, b⟩
      tags := h.tags, own := h.own, free := h.free, apart := h.apart, below := h.below, chain := fun j bj k hj hk => Nat.lt_succ_of_lt (h.chain j bj k hj hk) }
  have h1 := h0.later hle hb.size (fun b hb' => hb.block b hb') (w' := w') (fun i q hq => by
    by_cases e : i = σ.next
    · subst e; rw [Ren.put_self] at hq; cases hq; exact .inr ⟨Nat.lt_succ_self _, hlt, f2⟩
    · rw [Ren.put_ne _ _ e] at hq; exact .inl hq)
  refine ⟨h1.take (n := σ.next + 1) (Nat.le_refl _) (Nat.lt_succ_self _) f2 (Ren.put_self _ _ _) hbr (by omega) (fun j blk q hj hq => ?_) f3 hfr (tag := none) (fun _ h => by cases h), ?_⟩
  · by_cases e : j = σ.next
    · subst e; rw [show ({ σ with next := σ.next + 1 } : St).get σ.next = σ.get σ.next from rfl, f2] at hj; cases hj
    · rw [Ren.put_ne _ _ e] at hq; have := (h.dom j q hq).2; omega
  · refine ⟨hle, hb.size, hb.os, hb.output, hb.tape, Nat.le_succ _, fun b hb' _ => hb.block b hb', fun i blk q hi hq => ?_, fun i blk q hi hs hq => ?_, fun i blk hi => ?_, fun j bj k hj hk => ?_, fun j q hq => ?_⟩
    · by_cases e : i = σ.next
      · subst e; rw [Ren.put_self] at hq; cases hq; exact .inl hp
      · rw [St.push, St.get_put, if_neg e] at hi; rw [Ren.put_ne _ _ e] at hq; exact .inr ⟨i, blk, q, hi, hq, rfl⟩
    · by_cases e : i = σ.next
      · subst e; rw [Ren.put_self] at hq; cases hq; exact .inl hp
      · rw [St.push, St.get_put, if_neg e] at hi; rw [Ren.put_ne _ _ e] at hq; exact .inr ⟨i, blk, q, hi, hs, hq, rfl⟩
    · by_cases e : i = σ.next
      · exact .inl (by omega)
      · rw [St.push, St.get_put, if_neg e] at hi; exact .inr ⟨blk, hi⟩
    · by_cases e : j = σ.next
      · subst e; rw [St.push, St.get_put, if_pos rfl] at hj; cases hj; simp at hk
      · rw [St.push, St.get_put, if_neg e] at hj; exact .inr ⟨j, bj, hj, .inr hk⟩
    · by_cases e : j = σ.next
      · exact .inr (by omega)
      · rw [Ren.put_ne _ _ e] at hq; exact .inl hq
theorem VRs.same {ρ : Ren} {l : List Value} (h : ∀ x ∈ l, VR ρ x x) : VRs ρ l l := ⟨rfl, fun k x y hx hy => by rw [hx] at hy; cases hy; exact h x (List.mem_of_getElem? hx)⟩
/-- A new slice of flat values has come. -/
theorem made_row {B : Nat} {ρ : Ren} {σ : St} {w w' : World} (h : Sim B ρ σ w) (hB : B ≤ w.heap.size) (hb : Below w.heap.size w w') {t : TypeId} {v : Value} {n : Nat} {xs : List Value}
    (hrow : w'.ownsRow w.heap.size t 1 v n xs) (hnil : xs = [] → v = .slice none 0 0) (hx : ∀ ρ' : Ren, ∀ x ∈ xs, VR ρ' x x) (hs : isSmall xs.length = true) :
    CPost B ρ σ w (.ret (madeOf σ xs).1 (madeOf σ xs).2) (.returned v) w' := by
  cases xs with
  | nil =>
    obtain rfl := hnil rfl
    obtain ⟨h1, h2⟩ := h.laterB hb
    exact ⟨ρ, .nilSlice (by decide) (by decide), h1, h2⟩
  | cons x l =>
    obtain ⟨hlen, ⟨rfl, hn⟩ | ⟨g, cap, cur, rfl, hg, hblk, hcap, hmax, hcur, htake⟩⟩ := hrow
    · rw [hn] at hlen; simp at hlen
    · have hn : n = (x :: l).length := by omega
      subst hn
      simp only [Nat.mul_one] at hcur htake
      have hsm : (x :: l).length ≤ 1048576 := by simpa [isSmall] using hs
      have hg' : g < w'.heap.size := (Array.getElem?_eq_some_iff.1 hblk).1
      obtain ⟨k1, k2⟩ := h.pushB hB hb (body := .cells (x :: l)) (p := { b := g, s := 0, z := cur.size }) hg hg' ⟨cur, t, (0, 0), hblk, rfl, by show 0 + _ ≤ cur.size; omega, by
          show VRs _ (x :: l) ((cur.toList.drop 0).take (x :: l).length)
          rw [List.drop_zero, htake]; exact VRs.same (hx _)⟩ ⟨fun k _ _ => by simp [World.frozen?, hblk], fun _ => by simp [World.frozen?, hblk]⟩
      refine ⟨_, ?_, k1, k2⟩
      have e1 : capOf (codeAtLeast 1 (x :: l).length) = (x :: l).length := by unfold capOf codeAtLeast unit; omega
      have e2 : justOf (codeAtLeast 1 (x :: l).length) = false := by
        unfold justOf codeAtLeast unit
        have : (1 * 1099511627776 + 2 * (x :: l).length) % 2 = 0 := by omega
        rw [this]; rfl
      have e3 : eszOf (codeAtLeast 1 (x :: l).length) = 1 := by unfold eszOf codeAtLeast unit; omega
      have hv := VR.slice (ρ := ρ.put σ.next { b := g, s := 0, z := cur.size }) (i := σ.next) (o := 0) (l := (x :: l).length) (k := codeAtLeast 1 (x :: l).length) (c := cap) (Ren.put_self _ _ _) (by rw [e1]; exact Nat.le_refl _)
        (by unfold capOk; rw [e2, e1]; exact hcap) (fun _ => by rw [e3]; exact ⟨by show 0 + 0 + cap * 1 ≤ cur.size; omega, hmax⟩) (by rw [litOf_least]; simp)
      simpa [madeOf] using hv
theorem strRow_flat (l : List (List UInt8)) (ρ : Ren) : ∀ x ∈ strRow l, VR ρ x x := fun x hx => by
  obtain ⟨b, _, rfl⟩ := List.mem_map.1 hx; exact .string _
theorem intRow_flat (l : List Int) (ρ : Ren) : ∀ x ∈ intRow l, VR ρ x x := fun x hx => by
  obtain ⟨b, _, rfl⟩ := List.mem_map.1 hx; exact .int _ _
/-! ### what the iterator's box holds -/
theorem box_ok {B : Nat} {ρ : Ren} {σ : St} {w : World} (h : Sim B ρ σ w) {gs : List Nat} {f v : Value} (hf : boxOf gs σ f = some v) {f' : Value} (hv : VR ρ f f') :
    ∃ g b o v', g ∈ gs ∧ f' = .func (.func g) #[] #[.pointer (some ⟨b, o, none⟩)] ∧ w.cell? ⟨b, o, none⟩ = some v' ∧ VR ρ v v' ∧ b < w.heap.size := by
  unfold boxOf at hf
  split at hf
  · rename_i g first cap
    split at hf
    · rename_i b o hg h1 h2
      split at hf
      · rename_i u hc
        cases hf
        cases hv with
        | func fn ha hfa hb hfb =>
          rename_i a b2 a2 b3
          simp only at h1 h2
          subst h1; subst h2
          have ha2 : a2 = [] := by simpa using ha.symm
          subst ha2
          obtain ⟨y, l, rfl, hy, hl⟩ := VRs.inv_cons (ρ := ρ) (x := .pointer (some ⟨b, o, none⟩)) (a := []) (b := b3) ⟨hb, hfb⟩
          obtain rfl := hl.inv_nil
          obtain ⟨p, hp, h4, rfl⟩ : ∃ p, ρ b = some p ∧ True ∧ y = .pointer (some ⟨p.b, p.s + o, none⟩) := by
            cases hy with
            | ptr h => exact ⟨_, h, trivial, rfl⟩
          obtain ⟨l', hl1, _, _, hl2'⟩ := cells_get h.local hc hp
          refine ⟨g, p.b, p.s + o, ?_⟩
          obtain ⟨v', l2, rfl, hv', hl3⟩ := VRs.inv_cons hl1
          obtain rfl := hl3.inv_nil
          refine ⟨v', by simpa using hg, rfl, ?_, hv', (h.dom b p hp).2⟩
          have := hl2' 0 v' rfl
          simpa using this
      · cases hf
    · cases hf
  · cases hf
end
end Go.AM
