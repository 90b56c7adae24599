import Derived.Test.YtmgpnomphfeoiaaGreatDoorAmPrim
import Derived.Shelf.Spec.SlicesInsertGrow
set_option linter.all false
namespace Go.AM
noncomputable section
open Go.RowKit (Below)
open Go.Proofs (encStr)
/-! ### slices.Insert(s, i, v..) at ints, where s may have room: in the abstract the old row is gone -/
def insertV (σ : St) (args : List Value) : Option (Option (Value × St)) := match args with
  | [.slice (some ⟨b, o, none⟩) n k, .int .i64 (.ofNat i), .slice (some ⟨vb, vo, none⟩) m kv] =>
    match justOf k || Nat.ble n i || !(litOf kv) || Nat.beq m 0 || Nat.beq vb b || !(Nat.beq (eszOf k) 1) || !(isSmall (n + m)) with
    | true => none
    | false => match σ.get b, σ.get vb with
      | some { body := .cells c, chain, shut := false, tag := _ }, some { body := .cells cv, shut := false, .. } =>
        match takeCells cv vo m, Nat.beq (o + n) c.length && oneCells c && oneCells cv with
        | some vs, true => some (some (.slice (some ⟨σ.next, 0, none⟩) (n + m) (codeAtLeast 1 (n + m)),
            { heap := (dropAll σ.heap (b :: chain)).put σ.next (some { body := .cells (((c.drop o).take i ++ vs) ++ (c.drop o).drop i), chain := [], shut := false }), next := σ.next + 1 }))
        | _, _ => none
      | _, _ => none
  | _ => none
theorem Sim.drop {B : Nat} {ρ : Ren} {σ : St} {w : World} (h : Sim B ρ σ w) (l : List Nat) : Sim B ρ { heap := dropAll σ.heap l, next := σ.next } w := by
  have old : ∀ {j blk}, ({ heap := dropAll σ.heap l, next := σ.next } : St).get j = some blk → σ.get j = some blk := fun hj => (dropAll_mem hj).2
  exact ⟨fun j blk hj => h.live j blk (old hj), h.dom, fun j blk p hj => h.own j blk p (old hj), fun j blk p hj => h.free j blk p (old hj),
    fun i j bi bj p q hi hj => h.apart i j bi bj p q (old hi) (old hj), fun i j bi bj hi hj => h.below i j bi bj (old hi) (old hj), fun j bj k hj => h.chain j bj k (old hj), fun j blk p tn hj => h.tags j blk p tn (old hj)⟩
/-- A world block in which no live block lies has turned. -/
theorem Sim.off {B : Nat} {ρ : Ren} {σ : St} {w w' : World} (h : Sim B ρ σ w) {b0 : Nat} (hs : w'.heap.size = w.heap.size) (hh : ∀ b, b ≠ b0 → w'.heap[b]? = w.heap[b]?) (hn : ∀ j blk q, σ.get j = some blk → ρ j = some q → q.b ≠ b0) : Sim B ρ σ w' where
  live := fun j blk hj => let ⟨h1, q, hq, hb⟩ := h.live j blk hj; ⟨h1, q, hq, hb.same (hh _ (hn j blk q hj hq))⟩
  dom := fun j q hq => by rw [hs]; exact h.dom j q hq
  own := h.own
  free := fun j blk q hj hq hsh => (h.free j blk q hj hq hsh).same (hh _ (hn j blk q hj hq))
  apart := h.apart
  below := h.below
  chain := h.chain
  tags := fun j blk q tn hj hq ht => by rw [World.shape_same (hh _ (hn j blk q hj hq))]; exact h.tags j blk q tn hj hq ht
/-- Some blocks are gone, a new one has come: in the place of one that is gone, or in new memory. -/
theorem Sim.replace {B : Nat} {ρ : Ren} {σ : St} {w w' : World} (h : Sim B ρ σ w) {i : Nat} {body : Body} {chain : List Nat} {tag : Option (Nat × Nat)} (hg : σ.get i = some { body, chain, shut := false, tag }) {p p' : Pl} (hp : ρ i = some p) {nb : Body}
    (hB : B ≤ w.heap.size) (hsz : w.heap.size ≤ w'.heap.size) (hos : w'.os = w.os) (hou : w'.output = w.output) (hta : w'.tape = w.tape)
    (hkeep : ∀ b, b < w.heap.size → b ≠ p.b → w'.heap[b]? = w.heap[b]?) (hpl : p'.b = p.b ∨ w.heap.size ≤ p'.b) (hlt : p'.b < w'.heap.size)
    (hbr : BR (ρ.put σ.next p') p' w' nb) (hfr : Free p' w') :
    Sim B (ρ.put σ.next p') { heap := (dropAll σ.heap (i :: chain)).put σ.next (some { body := nb, chain := [], shut := false }), next := σ.next + 1 } w' ∧
    Ext ρ σ w (ρ.put σ.next p') { heap := (dropAll σ.heap (i :: chain)).put σ.next (some { body := nb, chain := [], shut := false }), next := σ.next + 1 } w' := by
  obtain ⟨f1, f2, f3⟩ := h.fresh (Nat.le_refl σ.next)
  have hle := Ren.put_le (p := p') f1
  have hown := h.own i _ p hg hp rfl
  obtain ⟨hilt, _, hpp, _⟩ := h.live i _ hg
  have hpsz := (h.dom i p hp).2
  have old : ∀ {j blk}, ({ heap := dropAll σ.heap (i :: chain), next := σ.next } : St).get j = some blk → j ∉ i :: chain ∧ σ.get j = some blk := fun hj => dropAll_mem hj
  -- no one else lies there
  have away : ∀ j blk q, ({ heap := dropAll σ.heap (i :: chain), next := σ.next } : St).get j = some blk → ρ j = some q → q.b ≠ p.b := by
    intro j blk q hj hq e
    obtain ⟨h1, h2⟩ := old hj
    have hne : j ≠ i := fun e' => h1 (e' ▸ List.mem_cons_self ..)
    rcases h.apart j i blk _ q p h2 hg hq hp e hne with ⟨hm, _⟩ | ⟨hm, _⟩
    · exact h1 (List.mem_cons_of_mem _ hm)
    · have := h.below i j _ blk hg h2 hm; cases this
  have h1 := h.drop (i :: chain)
  have h2 : Sim B ρ { heap := dropAll σ.heap (i :: chain), next := σ.next + 1 } w :=
    { live := fun j blk hj => let ⟨a, b⟩ := h1.live j blk hj; ⟨Nat.lt_succ_of_lt a, b⟩, dom := fun j q hq => let ⟨a, b⟩ := h1.dom j q hq; ⟨Nat.lt_succ_of_lt a, b⟩,
      tags := h1.tags, own := h1.own, free := h1.free, apart := h1.apart, below := h1.below, chain := fun j bj k hj hk => Nat.lt_succ_of_lt (h1.chain j bj k hj hk) }
  have hh : ∀ j blk q, ({ heap := dropAll σ.heap (i :: chain), next := σ.next + 1 } : St).get j = some blk → ρ j = some q → w'.heap[q.b]? = w.heap[q.b]? := fun j blk q hj hq => hkeep _ (h.dom j q hq).2 (away j blk q hj hq)
  have h3 : Sim B (ρ.put σ.next p') { heap := dropAll σ.heap (i :: chain), next := σ.next + 1 } w' := by
    have hren : ∀ j blk q, ({ heap := dropAll σ.heap (i :: chain), next := σ.next + 1 } : St).get j = some blk → ρ.put σ.next p' j = some q → ρ j = some q := fun j blk q hj hq => by
      by_cases e : j = σ.next
      · subst e; rw [(old hj).2] at f2; cases f2
      · rwa [Ren.put_ne _ _ e] at hq
    exact
    { live := fun j blk hj => let ⟨a, q, hq, hb⟩ := h2.live j blk hj; ⟨a, q, hle _ _ hq, (hb.mono hle).same (hh j blk q hj hq)⟩
      dom := fun j q hq => by
        by_cases e : j = σ.next
        · subst e; rw [Ren.put_self] at hq; cases hq; exact ⟨Nat.lt_succ_self _, hlt⟩
        · rw [Ren.put_ne _ _ e] at hq; obtain ⟨a, b⟩ := h2.dom j q hq; exact ⟨a, Nat.lt_of_lt_of_le b hsz⟩
      own := fun j blk q hj hq hs => h2.own j blk q hj (hren j blk q hj hq) hs
      free := fun j blk q hj hq hs => (h2.free j blk q hj (hren j blk q hj hq) hs).same (hh j blk q hj (hren j blk q hj hq))
      apart := fun j k bj bk q r hj hk hq hr => h2.apart j k bj bk q r hj hk (hren j bj q hj hq) (hren k bk r hk hr)
      below := h2.below
      chain := h2.chain
      tags := fun j blk q tn hj hq ht => by
        have hq' := hren j blk q hj hq
        rw [World.shape_same (hh j blk q hj hq')]; exact h2.tags j blk q tn hj hq' ht }
  have hd : ({ heap := dropAll σ.heap (i :: chain), next := σ.next + 1 } : St).get σ.next = none := by
    cases e : ({ heap := dropAll σ.heap (i :: chain), next := σ.next + 1 } : St).get σ.next with
    | none => rfl
    | some b => have := (old e).2; rw [f2] at this; cases this
  have hbB : B ≤ p'.b := by rcases hpl with e | e <;> omega
  refine ⟨h3.take (n := σ.next + 1) (Nat.le_refl _) (Nat.lt_succ_self _) hd (Ren.put_self _ _ _) hbr hbB (fun j blk q hj hq => ?_) (fun j bj hj hm => f3 j bj (old hj).2 hm) hfr (tag := none) (fun _ h => by cases h), ?_⟩
  · have hj' := (old hj).2
    have hq' : ρ j = some q := by
      by_cases e : j = σ.next
      · subst e; rw [f2] at hj'; cases hj'
      · rwa [Ren.put_ne _ _ e] at hq
    rcases hpl with e | e
    · rw [e]; exact away j blk q hj hq'
    · have := (h.dom j q hq').2; omega
  · have cases' : ∀ {j blk}, (({ heap := (dropAll σ.heap (i :: chain)).put σ.next (some { body := nb, chain := [], shut := false }), next := σ.next + 1 } : St).get j = some blk) → (j = σ.next ∧ blk = { body := nb, chain := [], shut := false }) ∨ (j ≠ σ.next ∧ σ.get j = some blk) := fun {j blk} hj => by
      rw [St.get_put] at hj
      by_cases e : j = σ.next
      · rw [if_pos e] at hj; cases hj; exact .inl ⟨e, rfl⟩
      · rw [if_neg e] at hj; exact .inr ⟨e, (old hj).2⟩
    refine ⟨hle, hsz, hos, hou, hta, Nat.le_succ _, fun b hb hno => ?_, fun j blk q hj hq => ?_, fun j blk q hj hs hq => ?_, fun j blk hj => ?_, fun j bj k hj hk => ?_, fun j q hq => ?_⟩
    · exact hkeep b hb fun e => hno i _ p hg rfl hp e.symm
    · rcases cases' hj with ⟨rfl, rfl⟩ | ⟨hne, hj⟩
      · rw [Ren.put_self] at hq; cases hq
        rcases hpl with e | e
        · exact .inr ⟨i, _, p, hg, hp, e.symm⟩
        · exact .inl e
      · rw [Ren.put_ne _ _ hne] at hq; exact .inr ⟨j, blk, q, hj, hq, rfl⟩
    · rcases cases' hj with ⟨rfl, rfl⟩ | ⟨hne, hj⟩
      · rw [Ren.put_self] at hq; cases hq
        rcases hpl with e | e
        · exact .inr ⟨i, _, p, hg, rfl, hp, e.symm⟩
        · exact .inl e
      · rw [Ren.put_ne _ _ hne] at hq; exact .inr ⟨j, blk, q, hj, hs, hq, rfl⟩
    · rcases cases' hj with ⟨rfl, rfl⟩ | ⟨hne, hj⟩
      · exact .inl (Nat.le_refl _)
      · exact .inr ⟨blk, hj⟩
    · rcases cases' hj with ⟨rfl, rfl⟩ | ⟨hne, hj⟩
      · cases hk
      · exact .inr ⟨j, bj, hj, .inr hk⟩
    · by_cases e : j = σ.next
      · exact .inr (by omega)
      · rw [Ren.put_ne _ _ e] at hq; exact .inl hq
theorem cells_at {w : World} {b : Nat} {cc : Array Value} {e : TypeId} {fr : Nat × Nat} (h : w.heap[b]? = some (.cells cc e fr)) (k : Nat) : w.cell? ⟨b, k, none⟩ = cc.toList[k]? := by
  simp [World.cell?, h]
theorem shift_list (A D V : List Value) {Q i m n : Nat} (hA : Q + (n + m) ≤ A.length) (hi : i ≤ n) (hD : D.length = n - i) (hV : V.length = m) :
    ((((A.take (Q + (i + m)) ++ D ++ A.drop (Q + (i + m) + D.length)).take (Q + i) ++ V ++ (A.take (Q + (i + m)) ++ D ++ A.drop (Q + (i + m) + D.length)).drop (Q + i + V.length)).drop Q).take (n + m)) = ((A.drop Q).take i ++ V) ++ D := by
  obtain ⟨X, A1, rfl, hX⟩ : ∃ X A1, A = X ++ A1 ∧ X.length = Q := ⟨A.take Q, A.drop Q, (List.take_append_drop _ _).symm, by simp; omega⟩
  obtain ⟨Y, A2, rfl, hY⟩ : ∃ Y A2, A1 = Y ++ A2 ∧ Y.length = i := ⟨A1.take i, A1.drop i, (List.take_append_drop _ _).symm, by simp at hA ⊢; omega⟩
  obtain ⟨Z, T, rfl, hZ⟩ : ∃ Z T, A2 = Z ++ T ∧ Z.length = m := ⟨A2.take m, A2.drop m, (List.take_append_drop _ _).symm, by simp at hA ⊢; omega⟩
  have e1 : (X ++ (Y ++ (Z ++ T))).take (Q + (i + m)) = X ++ (Y ++ Z) := by rw [show X ++ (Y ++ (Z ++ T)) = (X ++ (Y ++ Z)) ++ T by simp]; exact List.take_left' (by simp; omega)
  rw [e1]
  generalize (X ++ (Y ++ (Z ++ T))).drop (Q + (i + m) + D.length) = R
  have e3 : (X ++ (Y ++ Z) ++ D ++ R).take (Q + i) = X ++ Y := by rw [show X ++ (Y ++ Z) ++ D ++ R = (X ++ Y) ++ (Z ++ (D ++ R)) by simp]; exact List.take_left' (by simp; omega)
  have e4 : (X ++ (Y ++ Z) ++ D ++ R).drop (Q + i + V.length) = D ++ R := by rw [show X ++ (Y ++ Z) ++ D ++ R = (X ++ (Y ++ Z)) ++ (D ++ R) by simp]; exact List.drop_left' (by simp; omega)
  have e5 : ((X ++ (Y ++ (Z ++ T))).drop Q).take i = Y := by rw [List.drop_left' hX, List.take_left' hY]
  rw [e3, e4, e5]
  have e6 : (X ++ Y ++ V ++ (D ++ R)).drop Q = ((Y ++ V) ++ D) ++ R := by rw [show X ++ Y ++ V ++ (D ++ R) = X ++ (((Y ++ V) ++ D) ++ R) by simp]; exact List.drop_left' hX
  rw [e6]
  exact List.take_left' (by simp; omega)
theorem grow_list (A D V : List Value) {i m n : Nat} (hA : n + m ≤ A.length) (hi : i ≤ n) (hD : D.length = n - i) (hV : V.length = m) :
    (((A.take i ++ V ++ A.drop (i + V.length)).take (i + m) ++ D ++ (A.take i ++ V ++ A.drop (i + V.length)).drop (i + m + D.length)).take (n + m)) = (A.take i ++ V) ++ D := by
  rw [List.take_left' (by simp; omega), List.take_left' (by simp; omega)]
theorem setCells_cells {w : World} {b : Nat} {cc : Array Value} {e : TypeId} {fr : Nat × Nat} (h : w.heap[b]? = some (.cells cc e fr)) (o : Nat) (vs : List Value) (hl : o + vs.length ≤ cc.size) :
    ∃ cc' : Array Value, (w.setCells b o vs).heap[b]? = some (.cells cc' e fr) ∧ cc'.size = cc.size ∧ cc'.toList = cc.toList.take o ++ vs ++ cc.toList.drop (o + vs.length) := World.setCells_self b vs o w cc e fr h hl
section
variable {P : Program} {ρs : Go.Shelf.Ren}
open Go.Proofs
theorem insert_ok (L : Lays2.n21 P ρs) {B : Nat} {σ σ' : St} {args : List Value} {v : Value} (h : insertV σ args = some (some (v, σ'))) {ρ : Ren} {w : World} {args' : Array Value} (hS : Sim B ρ σ w) (hB : B ≤ w.heap.size) (hv : VRs ρ args args'.toList) :
    Calls P (ρs.f 21) args' w (CPost B ρ σ w (.ret v σ')) := by
  unfold insertV at h
  split at h
  case h_2 => cases h
  rename_i b o n k i vb vo m kv
  split at h
  · cases h
  · rename_i hcond
    simp only [Bool.or_eq_false_iff, Bool.not_eq_false'] at hcond
    obtain ⟨⟨⟨⟨⟨⟨hk, hni⟩, hlit⟩, hm0⟩, hvb⟩, hesz⟩, hsm⟩ := hcond
    have hin : i < n := by
      have : ¬ n ≤ i := fun h' => by rw [Nat.ble_eq_true_of_le h'] at hni; cases hni
      omega
    have hm : 0 < m := by cases m with | zero => simp at hm0 | succ m => omega
    have hne : vb ≠ b := fun e => by rw [e] at hvb; simp at hvb
    have hesz' : eszOf k = 1 := Nat.eq_of_beq_eq_true hesz
    have hsm' : n + m ≤ 1048576 := by simpa [isSmall] using hsm
    split at h
    case h_2 => cases h
    rename_i c chain tgc cv chv tgv hgb hgv
    split at h
    case h_2 => cases h
    rename_i vs hvs hcc
    simp only [Bool.and_eq_true, Nat.beq_eq] at hcc
    obtain ⟨⟨hlen, hone⟩, honev⟩ := hcc
    simp only [Option.some.injEq, Prod.mk.injEq] at h
    obtain ⟨rfl, rfl⟩ := h
    obtain ⟨s', l1, e1, hs1, hv1⟩ := hv.inv_cons
    obtain ⟨i', l2, rfl, hi1, hv2⟩ := hv1.inv_cons
    obtain ⟨t', l3, rfl, ht1, hv3⟩ := hv2.inv_cons
    obtain rfl := hv3.inv_nil
    have ei := hi1.inv_int; subst ei
    obtain rfl : args' = #[s', .int .i64 (Int.ofNat i), t'] := by cases args'; simp at e1; simp [e1]
    cases hs1 with
    | noSlice hk0 hr => omega
    | slice hr hl hc hz hli =>
    rename_i c' p
    cases ht1 with
    | noSlice hk0 hr' => omega
    | slice hr' hl' hc' hz' hli' =>
    rename_i cv' q
    have hcap : capOf k ≤ c' := by unfold capOk at hc; rw [hk] at hc; simpa using hc
    obtain ⟨hz1, hc63⟩ := hz hk
    rw [hesz', Nat.mul_one] at hz1
    have hqm := hli' hlit
    obtain ⟨hblt, p0, hp0, hbr⟩ := hS.live b _ hgb
    rw [hr] at hp0; cases hp0
    obtain ⟨hvlt, q0, hq0, hbrv⟩ := hS.live vb _ hgv
    rw [hr'] at hq0; cases hq0
    have hfp := hS.free b _ p hgb hr rfl
    have hfq := hS.free vb _ q hgv hr' rfl
    obtain ⟨cc, e, fr, b1, b2, b3, b4⟩ := hbr
    obtain ⟨ccv, ev, frv, d1, d2, d3, d4⟩ := hbrv
    have hpsz := (hS.dom b p hr).2
    have hqp : q.b ≠ p.b := fun he => by
      rcases hS.apart vb b _ _ q p hgv hgb hr' hr he hne with ⟨hmm, _⟩ | ⟨hmm, _⟩
      · have := hS.below vb b _ _ hgv hgb hmm; cases this
      · have := hS.below b vb _ _ hgb hgv hmm; cases this
    obtain ⟨hvl, rfl⟩ := (takeCells_iff _ _ _ _).1 hvs
    generalize hcs : (cc.toList.drop p.s).take c.length = ccs at b4
    generalize hcvs : (ccv.toList.drop q.s).take cv.length = ccvs at d4
    have hccl : ccs.length = c.length := b4.1.symm
    have hccvl : ccvs.length = cv.length := d4.1.symm
    have hat : ∀ j, j < c.length → w.cell? ⟨p.b, p.s + j, none⟩ = ccs[j]? := fun j hj => by
      rw [cells_at b1, ← hcs, List.getElem?_take, if_pos hj, List.getElem?_drop]
    have hatv : ∀ j, j < cv.length → w.cell? ⟨q.b, q.s + j, none⟩ = ccvs[j]? := fun j hj => by
      rw [cells_at d1, ← hcvs, List.getElem?_take, if_pos hj, List.getElem?_drop]
    have hones := b4.oneCells hone
    have honesv := d4.oneCells honev
    have hshp : w.shape? p.b = some (e, p.z) := by simp [World.shape?, b1, b2]
    have hshq : w.shape? q.b = some (ev, q.z) := by simp [World.shape?, d1, d2]
    have hcl : (ccs.drop o).length = n := by simp; omega
    have hvl2 : ((ccvs.drop vo).take m).length = m := by simp; omega
    have f1 : ∀ j v, (ccs.drop o)[j]? = some v → w.cell? ⟨p.b, p.s + o + j, none⟩ = some v := fun j v hj => by
      have hlt : j < n := by rw [← hcl]; exact (List.getElem?_eq_some_iff.1 hj).1
      rw [List.getElem?_drop] at hj
      rw [Nat.add_assoc, hat (o + j) (by omega), hj]
    have f2 : ∀ j v, ((ccvs.drop vo).take m)[j]? = some v → w.cell? ⟨q.b, q.s + vo + j, none⟩ = some v := fun j v hj => by
      have hlt : j < m := by rw [← hvl2]; exact (List.getElem?_eq_some_iff.1 hj).1
      rw [List.getElem?_take, if_pos hlt, List.getElem?_drop] at hj
      rw [Nat.add_assoc, hatv (vo + j) (by omega), hj]
    have g1 : ∀ v ∈ ccs.drop o, v.oneCell' = true := fun v hv => hones v (List.mem_of_mem_drop hv)
    have g2 : ∀ v ∈ (ccvs.drop vo).take m, v.oneCell' = true := fun v hv => honesv v (List.mem_of_mem_drop (List.mem_of_mem_take hv))
    have hnewVR : ∀ ρ', ρ.le ρ' → VRs ρ' (((c.drop o).take i ++ (cv.drop vo).take m) ++ (c.drop o).drop i) (((ccs.drop o).take i ++ (ccvs.drop vo).take m) ++ (ccs.drop o).drop i) := fun ρ' hr0 =>
      (((((b4.drop o).take i).append ((d4.drop vo).take m)).append ((b4.drop o).drop i))).mono hr0
    have hnl : ((((c.drop o).take i ++ (cv.drop vo).take m) ++ (c.drop o).drop i)).length = n + m := by simp; omega
    have hnl' : ((((ccs.drop o).take i ++ (ccvs.drop vo).take m) ++ (ccs.drop o).drop i)).length = n + m := by rw [← hnl]; exact (hnewVR ρ (Ren.le_refl _)).1.symm
    obtain ⟨j1, j2, j3⟩ := capOf_least' (e := 1) (c := n + m) (by omega)
    have hfresh := (hS.fresh (Nat.le_refl σ.next)).1
    have hVR : ∀ {ρ' : Ren} {p' : Pl} {cap : Nat}, ρ' σ.next = some p' → n + m ≤ cap → p'.s + cap ≤ p'.z → cap ≤ 9223372036854775807 → VR ρ' (.slice (some ⟨σ.next, 0, none⟩) (n + m) (codeAtLeast 1 (n + m))) (.slice (some ⟨p'.b, p'.s, none⟩) (n + m) cap) := fun {ρ' p' cap} h1 h2 h3 h4 => by
      have := VR.slice (ρ := ρ') (i := σ.next) (o := 0) (l := n + m) (k := codeAtLeast 1 (n + m)) (c := cap) h1 (by rw [j1]; exact Nat.le_refl _) (by unfold capOk; rw [j2, if_neg (by simp), j1]; exact h2) (fun _ => by rw [j3]; exact ⟨by omega, h4⟩) (by rw [litOf_least]; simp)
      simpa using this
    have hdrl : ((ccs.drop o).drop i).length = n - i := by simp; omega
    by_cases hroom : n + m ≤ c'
    · have hsp : ∀ j, j < n + m → (w.cell? ⟨p.b, p.s + o + j, none⟩).isSome = true := fun j hj => by
        rw [cells_at b1]
        have : p.s + o + j < cc.toList.length := by simp; omega
        rw [List.getElem?_eq_getElem this]; rfl
      have hfz : ∀ j, j < n + m → w.frozen? ⟨p.b, p.s + o + j, none⟩ = false := fun j hj => hfp.1 _ (by omega) (by omega)
      refine (Any2.slices_Insert_int_shift L p.b (p.s + o) n c' i q.b (q.s + vo) m cv' (ccs.drop o) ((ccvs.drop vo).take m) w hin hm hroom hc63 hqp hcl hvl2 f1 hsp hfz f2 g1 g2 ev e q.z p.z hshq hshp (by omega) (hfq.1 _ (by omega) (by omega)) (hfq.2 hqm)).mono ?_
      rintro e' w' ⟨rfl, rfl⟩
      have b1' : w.drew.heap[p.b]? = some (.cells cc e fr) := b1
      obtain ⟨cc1, a1, a2, a3⟩ := setCells_cells b1' (p.s + o + (i + m)) ((ccs.drop o).drop i) (by rw [hdrl]; omega)
      obtain ⟨cc2, x1, x2, x3⟩ := setCells_cells a1 (p.s + o + i) ((ccvs.drop vo).take m) (by rw [hvl2]; omega)
      have hlist := shift_list cc.toList ((ccs.drop o).drop i) ((ccvs.drop vo).take m) (Q := p.s + o) (i := i) (m := m) (n := n) (by simp; omega) (by omega) hdrl hvl2
      rw [← a3, ← x3] at hlist
      have hdr : (cc.toList.drop (p.s + o)).take i = (ccs.drop o).take i := by
        rw [← hcs, List.drop_take, List.drop_drop, List.take_take, Nat.min_eq_left (by omega)]
      rw [hdr] at hlist
      have t1 := World.setCells_tape p.b ((ccs.drop o).drop i) (p.s + o + (i + m)) w.drew
      have t2 := World.setCells_tape p.b ((ccvs.drop vo).take m) (p.s + o + i) (w.drew.setCells p.b (p.s + o + (i + m)) ((ccs.drop o).drop i))
      have z1 := World.setCells_size p.b ((ccs.drop o).drop i) (p.s + o + (i + m)) w.drew
      have z2 := World.setCells_size p.b ((ccvs.drop vo).take m) (p.s + o + i) (w.drew.setCells p.b (p.s + o + (i + m)) ((ccs.drop o).drop i))
      have zz : w.drew.heap.size = w.heap.size := rfl
      obtain ⟨k1, k2⟩ := hS.replace hgb hr (p' := { b := p.b, s := p.s + o, z := p.z, m := p.m }) (nb := .cells (((c.drop o).take i ++ (cv.drop vo).take m) ++ (c.drop o).drop i))
        (w' := (w.drew.setCells p.b (p.s + o + (i + m)) ((ccs.drop o).drop i)).setCells p.b (p.s + o + i) ((ccvs.drop vo).take m)) hB (by omega) (t2.2.1.trans t1.2.1) (t2.2.2.trans t1.2.2) (t2.1.trans t1.1)
        (fun b' _ hb' => (World.setCells_other p.b _ _ _ b' hb').trans (World.setCells_other p.b _ _ _ b' hb')) (.inl rfl) (by show p.b < _; omega)
        ⟨cc2, e, fr, x1, by show cc2.size = p.z; omega, by show p.s + o + _ ≤ p.z; omega, by
          show VRs _ _ ((cc2.toList.drop (p.s + o)).take _)
          rw [hnl, hlist]; exact hnewVR _ (Ren.put_le hfresh)⟩
        ⟨fun k h1 h2 => by rw [World.frozen?_setCells, World.frozen?_setCells]; exact hfp.1 k (Nat.le_trans (Nat.le_add_right _ _) h1) h2, fun hm' => by rw [World.frozen?_setCells, World.frozen?_setCells]; exact hfp.2 hm'⟩
      exact ⟨_, hVR (Ren.put_self _ _ _) hroom hz1 hc63, k1, k2⟩
    · refine (Any2.slices_Insert_int_grow L p.b (p.s + o) n c' i q.b (q.s + vo) m cv' (ccs.drop o) ((ccvs.drop vo).take m) w hin hm (Nat.le_trans hl hcap) (by omega) (by omega) hcl hvl2 f1 f2 g1 g2).mono ?_
      rintro e' w' ⟨rfl, rfl⟩
      have hG1 := grownCap_ge w (n + m) c' (ρs.t 3)
      have hG2 := grownCap_le_maxLen w (n + m) c' (ρs.t 3) (by unfold maxLen; omega)
      generalize hGc : grownCap w (n + m) c' (ρs.t 3) = G at hG1 hG2 ⊢
      generalize hA0 : (((ccs.drop o).take i).toArray ++ Builtin.zeroCells (Value.int .i64 0).cells (n + m - i) ++ Builtin.zeroCells (Value.int .i64 0).cells (G - (n + m)) : Array Value) = A0
      have hA0s : A0.size = G := by
        rw [← hA0]
        simp only [Array.size_append, zeroCells_size]
        simp [Value.cells]
        omega
      have hA0t : A0.toList.take i = (ccs.drop o).take i := by
        rw [← hA0]
        simp only [Array.toList_append, List.append_assoc]
        exact List.take_left' (by simp; omega)
      have b1' : (w.alloc (.cells A0 (ρs.t 3))).drew.heap[w.heap.size]? = some (.cells A0 (ρs.t 3) (0, 0)) := World.alloc_heap_new w _
      obtain ⟨cc1, a1, a2, a3⟩ := setCells_cells b1' i ((ccvs.drop vo).take m) (by rw [hvl2]; omega)
      have a1' : ((w.alloc (.cells A0 (ρs.t 3))).drew.setCells w.heap.size i ((ccvs.drop vo).take m)).drew.heap[w.heap.size]? = some (.cells cc1 (ρs.t 3) (0, 0)) := a1
      obtain ⟨cc2, x1, x2, x3⟩ := setCells_cells a1' (i + m) ((ccs.drop o).drop i) (by rw [hdrl]; omega)
      have hlist := grow_list A0.toList ((ccs.drop o).drop i) ((ccvs.drop vo).take m) (i := i) (m := m) (n := n) (by simp; omega) (by omega) hdrl hvl2
      rw [← a3, ← x3, hA0t] at hlist
      have t1 := World.setCells_tape w.heap.size ((ccvs.drop vo).take m) i (w.alloc (.cells A0 (ρs.t 3))).drew
      have t2 := World.setCells_tape w.heap.size ((ccs.drop o).drop i) (i + m) ((w.alloc (.cells A0 (ρs.t 3))).drew.setCells w.heap.size i ((ccvs.drop vo).take m)).drew
      have z1 := World.setCells_size w.heap.size ((ccvs.drop vo).take m) i (w.alloc (.cells A0 (ρs.t 3))).drew
      have z2 := World.setCells_size w.heap.size ((ccs.drop o).drop i) (i + m) ((w.alloc (.cells A0 (ρs.t 3))).drew.setCells w.heap.size i ((ccvs.drop vo).take m)).drew
      have zz : (w.alloc (.cells A0 (ρs.t 3))).drew.heap.size = w.heap.size + 1 := by show (w.alloc _).heap.size = _; simp
      have zz2 : ((w.alloc (.cells A0 (ρs.t 3))).drew.setCells w.heap.size i ((ccvs.drop vo).take m)).drew.heap.size = ((w.alloc (.cells A0 (ρs.t 3))).drew.setCells w.heap.size i ((ccvs.drop vo).take m)).heap.size := rfl
      have hkp : ∀ b', b' < w.heap.size → ((((w.alloc (.cells A0 (ρs.t 3))).drew.setCells w.heap.size i ((ccvs.drop vo).take m)).drew).setCells w.heap.size (i + m) ((ccs.drop o).drop i)).heap[b']? = w.heap[b']? := fun b' hb' => by
        rw [World.setCells_other _ _ _ _ b' (by omega)]
        show ((w.alloc (.cells A0 (ρs.t 3))).drew.setCells w.heap.size i ((ccvs.drop vo).take m)).heap[b']? = _
        rw [World.setCells_other _ _ _ _ b' (by omega)]
        exact Go.RowKit.Below.heap_alloc _ _ b' hb'
      obtain ⟨k1, k2⟩ := hS.replace hgb hr (p' := { b := w.heap.size, s := 0, z := G }) (nb := .cells (((c.drop o).take i ++ (cv.drop vo).take m) ++ (c.drop o).drop i))
        (w' := (((w.alloc (.cells A0 (ρs.t 3))).drew.setCells w.heap.size i ((ccvs.drop vo).take m)).drew).setCells w.heap.size (i + m) ((ccs.drop o).drop i)) hB (by omega) (t2.2.1.trans t1.2.1) (t2.2.2.trans t1.2.2) (t2.1.trans t1.1)
        (fun b' hb' _ => hkp b' hb') (.inr (Nat.le_refl _)) (by show w.heap.size < _; omega)
        ⟨cc2, _, _, x1, by show cc2.size = G; omega, by show 0 + _ ≤ G; omega, by
          show VRs _ _ ((cc2.toList.drop 0).take _)
          rw [hnl, List.drop_zero, hlist]; exact hnewVR _ (Ren.put_le hfresh)⟩
        ⟨fun k _ _ => by simp only [World.frozen?, x1]; simp, fun _ => by simp only [World.frozen?, x1]; simp⟩
      exact ⟨_, hVR (Ren.put_self _ _ _) hG1 (by show 0 + G ≤ G; omega) hG2, k1, k2⟩
end
end
end Go.AM
