import Derived.Test.YtmgpnomphfeoiaaGreatDoorAmSim
set_option linter.all false
namespace Go.AM
theorem takeR_iff {α : Type} : ∀ (c : List α) (n : Nat) (l : List α), takeR c n = some l ↔ n ≤ c.length ∧ l = c.take n
  | [], 0, l => by show some [] = some l ↔ _; simp [eq_comm]
  | [], n + 1, l => by show none = some l ↔ _; simp
  | x :: c, 0, l => by show some [] = some l ↔ _; simp [eq_comm]
  | x :: c, n + 1, l => by
    have ih := takeR_iff c n
    show (Option.rec (motive := fun _ => Option (List α)) none (fun l => some (x :: l)) (takeR c n) : Option (List α)) = some l ↔ _
    cases h : takeR c n with
    | none =>
      show none = some l ↔ _
      simp only [reduceCtorEq, List.length_cons, false_iff]
      rintro ⟨h1, h2⟩
      have := (ih _).2 ⟨by omega, rfl⟩
      rw [h] at this; cases this
    | some d =>
      obtain ⟨h1, h2⟩ := (ih d).1 h
      subst h2
      show some _ = some l ↔ _
      simp [eq_comm]; omega
theorem takeCells_iff : ∀ (c : List Value) (k n : Nat) (l : List Value), takeCells c k n = some l ↔ k + n ≤ c.length ∧ l = (c.drop k).take n
  | [], 0, n, l => by show takeR [] n = some l ↔ _; rw [takeR_iff]; simp
  | x :: c, 0, n, l => by show takeR (x :: c) n = some l ↔ _; rw [takeR_iff]; simp
  | [], k + 1, n, l => by show none = some l ↔ _; simp
  | x :: c, k + 1, n, l => by
    show takeCells c k n = some l ↔ _
    rw [takeCells_iff c k n l]
    simp; omega
theorem setGo_iff : ∀ (c vs c' : List Value), setGo vs c = some c' ↔ vs.length ≤ c.length ∧ c' = vs ++ c.drop vs.length
  | c, [], c' => by show some c = some c' ↔ _; simp [eq_comm]
  | [], v :: vs, c' => by show none = some c' ↔ _; simp
  | x :: c, v :: vs, c' => by
    have ih := setGo_iff c vs
    show (Option.rec (motive := fun _ => Option (List Value)) none (fun c' => some (v :: c')) (setGo vs c) : Option (List Value)) = some c' ↔ _
    cases h : setGo vs c with
    | none =>
      show none = some c' ↔ _
      simp only [reduceCtorEq, List.length_cons, false_iff]
      rintro ⟨h1, h2⟩
      have := (ih _).2 ⟨by omega, rfl⟩
      rw [h] at this; cases this
    | some d =>
      obtain ⟨h1, h2⟩ := (ih d).1 h
      subst h2
      show some _ = some c' ↔ _
      simp [eq_comm]; omega
theorem setCells_iff : ∀ (c : List Value) (k : Nat) (vs c' : List Value), setCells c k vs = some c' ↔ k + vs.length ≤ c.length ∧ c' = c.take k ++ vs ++ c.drop (k + vs.length)
  | [], 0, vs, c' => by show setGo vs [] = some c' ↔ _; rw [setGo_iff]; simp
  | x :: c, 0, vs, c' => by show setGo vs (x :: c) = some c' ↔ _; rw [setGo_iff]; simp
  | [], k + 1, vs, c' => by show none = some c' ↔ _; simp
  | x :: c, k + 1, vs, c' => by
    have ih := setCells_iff c k vs
    show (Option.rec (motive := fun _ => Option (List Value)) none (fun c' => some (x :: c')) (setCells c k vs) : Option (List Value)) = some c' ↔ _
    cases h : setCells c k vs with
    | none =>
      show none = some c' ↔ _
      simp only [reduceCtorEq, List.length_cons, false_iff]
      rintro ⟨h1, h2⟩
      have := (ih _).2 ⟨by omega, rfl⟩
      rw [h] at this; cases this
    | some d =>
      obtain ⟨h1, h2⟩ := (ih d).1 h
      subst h2
      show some _ = some c' ↔ _
      simp [eq_comm, Nat.add_right_comm]; omega
theorem World.setCells_size (b : Nat) : ∀ (vs : List Value) (o : Nat) (w : World), (w.setCells b o vs).heap.size = w.heap.size
  | [], _, _ => rfl
  | v :: vs, o, w => by rw [World.setCells, World.setCells_size b vs]; simp [World.setCell]
theorem World.setCells_other (b : Nat) : ∀ (vs : List Value) (o : Nat) (w : World) (j : Nat), j ≠ b → (w.setCells b o vs).heap[j]? = w.heap[j]?
  | [], _, _, _, _ => rfl
  | v :: vs, o, w, j, h => by
    rw [World.setCells, World.setCells_other b vs _ _ j h]
    simp only [World.setCell]
    rw [Array.getElem?_modify, if_neg (fun e => h e.symm)]
theorem World.setCells_tape (b : Nat) : ∀ (vs : List Value) (o : Nat) (w : World), (w.setCells b o vs).tape = w.tape ∧ (w.setCells b o vs).os = w.os ∧ (w.setCells b o vs).output = w.output
  | [], _, _ => ⟨rfl, rfl, rfl⟩
  | v :: vs, o, w => by rw [World.setCells]; exact World.setCells_tape b vs _ _
theorem World.setCells_self (b : Nat) : ∀ (vs : List Value) (o : Nat) (w : World) (cc : Array Value) (e : TypeId) (fr : Nat × Nat), w.heap[b]? = some (.cells cc e fr) → o + vs.length ≤ cc.size →
    ∃ cc' : Array Value, (w.setCells b o vs).heap[b]? = some (.cells cc' e fr) ∧ cc'.size = cc.size ∧ cc'.toList = cc.toList.take o ++ vs ++ cc.toList.drop (o + vs.length)
  | [], o, w, cc, e, fr, h, _ => ⟨cc, h, rfl, by simp⟩
  | v :: vs, o, w, cc, e, fr, h, hl => by
    have h1 : (w.setCell ⟨b, o, none⟩ v).heap[b]? = some (.cells (cc.setIfInBounds o v) e fr) := by
      simp only [World.setCell]
      rw [Array.getElem?_modify, if_pos rfl, h]; rfl
    obtain ⟨cc', h2, h3, h4⟩ := World.setCells_self b vs (o + 1) (w.setCell ⟨b, o, none⟩ v) _ e fr h1 (by simp at hl ⊢; omega)
    refine ⟨cc', h2, by rw [h3]; simp, ?_⟩
    rw [h4]
    have ho : o < cc.toList.length := by simp at hl ⊢; omega
    rw [Array.toList_setIfInBounds, List.take_add_one, List.getElem?_set_self ho]
    simp [List.take_set, List.drop_set]
    rw [List.set_eq_of_length_le (by simp; omega)]
    rw [if_pos (by omega), show o + (vs.length + 1) = o + 1 + vs.length by omega]
theorem World.shape?_setCell (w : World) (a : Addr) (v : Value) (r : Nat) : (w.setCell a v).shape? r = w.shape? r := by
  simp only [World.shape?, World.setCell]
  by_cases h : r = a.block
  · subst h
    rw [Array.getElem?_modify]
    cases hx : w.heap[a.block]? with
    | none => simp
    | some o => cases o <;> simp <;> split <;> simp
  · rw [Array.getElem?_modify, if_neg (fun e => h e.symm)]
theorem World.shape?_setCells (b : Nat) : ∀ (vs : List Value) (o : Nat) (w : World) (r : Nat), (w.setCells b o vs).shape? r = w.shape? r
  | [], _, _, _ => rfl
  | v :: vs, o, w, r => by rw [World.setCells, World.shape?_setCells b vs, World.shape?_setCell]
theorem oneCells_iff : ∀ (vs : List Value), oneCells vs = true → ∀ v ∈ vs, v.oneCell' = true
  | [], _, _, h => by simp at h
  | v :: vs, h, u, hu => by
    cases v <;> simp only [oneCells] at h <;> (try (cases h; done)) <;> (rcases List.mem_cons.1 hu with rfl | hu; rfl; exact oneCells_iff vs h u hu)
theorem VR.oneCell {ρ : Ren} {v v' : Value} (h : VR ρ v v') : v.oneCell' = v'.oneCell' := by cases h <;> rfl
theorem VRs.oneCells {ρ : Ren} {vs vs' : List Value} (h : VRs ρ vs vs') (h1 : oneCells vs = true) : ∀ v ∈ vs', v.oneCell' = true := by
  intro v hv
  obtain ⟨k, hk⟩ := List.getElem?_of_mem hv
  have hl : k < vs.length := by rw [h.1]; exact (List.getElem?_eq_some_iff.1 hk).1
  rw [← (h.2 k _ v (List.getElem?_eq_getElem hl) hk).oneCell]
  exact oneCells_iff vs h1 _ (List.getElem_mem hl)
/-- The cells of a live block, read. -/
theorem BR.cell {ρ : Ren} {p : Pl} {w : World} {c : List Value} (h : BR ρ p w (.cells c)) {o n : Nat} (hn : o + n ≤ c.length) :
    ∃ l, VRs ρ ((c.drop o).take n) l ∧ l.length = n ∧ ∀ j v, l[j]? = some v → w.cell? ⟨p.b, p.s + o + j, none⟩ = some v := by
  obtain ⟨cc, e, fr, h1, h2, h3, h5⟩ := h
  refine ⟨(((cc.toList.drop p.s).take c.length).drop o).take n, (h5.drop o).take n, by simp; omega, fun j v hv => ?_⟩
  rw [List.getElem?_take] at hv
  split at hv
  · rw [List.getElem?_drop, List.getElem?_take] at hv
    split at hv
    · rw [List.getElem?_drop] at hv
      simp only [World.cell?, h1]
      rw [← hv]; simp [Nat.add_assoc]
    · cases hv
  · cases hv
theorem VRs.splice {ρ : Ren} {c c' vs vs' : List Value} (h : VRs ρ c c') (hv : VRs ρ vs vs') (o : Nat) :
    VRs ρ (c.take o ++ vs ++ c.drop (o + vs.length)) (c'.take o ++ vs' ++ c'.drop (o + vs.length)) := ((h.take o).append hv).append (h.drop _)
theorem dropAll_mem {l : List Nat} {h : Tr Blk} {m : Nat} {b : Blk} (e : (dropAll h l).get m = some b) : m ∉ l ∧ h.get m = some b := by
  rw [dropAll_get] at e
  split at e
  · cases e
  · exact ⟨‹_›, e⟩
theorem splice_eq (L V : List Value) {s n o : Nat} (h : s + n ≤ L.length) (h' : o + V.length ≤ n) :
    ((L.take (s + o) ++ V ++ L.drop (s + o + V.length)).drop s).take n = ((L.drop s).take n).take o ++ V ++ ((L.drop s).take n).drop (o + V.length) := by
  obtain ⟨A, L1, rfl, hA⟩ : ∃ A L1, L = A ++ L1 ∧ A.length = s := ⟨L.take s, L.drop s, (List.take_append_drop _ _).symm, by simp; omega⟩
  obtain ⟨C1, L2, rfl, h1⟩ : ∃ A L2, L1 = A ++ L2 ∧ A.length = o := ⟨L1.take o, L1.drop o, (List.take_append_drop _ _).symm, by simp at h ⊢; omega⟩
  obtain ⟨C2, L3, rfl, h2⟩ : ∃ A L3, L2 = A ++ L3 ∧ A.length = V.length := ⟨L2.take V.length, L2.drop V.length, (List.take_append_drop _ _).symm, by simp at h ⊢; omega⟩
  obtain ⟨C3, D, rfl, h3⟩ : ∃ A D, L3 = A ++ D ∧ A.length = n - o - V.length := ⟨L3.take (n - o - V.length), L3.drop (n - o - V.length), (List.take_append_drop _ _).symm, by simp at h ⊢; omega⟩
  have e1 : (A ++ (C1 ++ (C2 ++ (C3 ++ D)))).take (s + o) = A ++ C1 := by rw [← List.append_assoc, List.take_left' (by simp; omega)]
  have e2 : (A ++ (C1 ++ (C2 ++ (C3 ++ D)))).drop (s + o + V.length) = C3 ++ D := by
    rw [← List.append_assoc, ← List.append_assoc, List.drop_left' (by simp; omega)]
  have e3 : (A ++ (C1 ++ (C2 ++ (C3 ++ D)))).drop s = C1 ++ (C2 ++ (C3 ++ D)) := List.drop_left' hA
  have e4 : (C1 ++ (C2 ++ (C3 ++ D))).take n = C1 ++ (C2 ++ C3) := by
    rw [show C1 ++ (C2 ++ (C3 ++ D)) = (C1 ++ (C2 ++ C3)) ++ D by simp, List.take_left' (by simp; omega)]
  rw [e1, e2, e3, e4, List.append_assoc, List.append_assoc, List.drop_left' hA, List.take_left' h1]
  rw [show C1 ++ (V ++ (C3 ++ D)) = (C1 ++ V ++ C3) ++ D by simp, List.take_left' (by simp; omega)]
  rw [← List.append_assoc, List.drop_left' (by simp; omega)]
/-- Cells are written. -/
theorem Sim.write {B : Nat} {ρ : Ren} {σ σ' : St} {w : World} (h : Sim B ρ σ w) {i o : Nat} {vs vs' : List Value} (hv : VRs ρ vs vs') (hw : σ.write i o vs = some σ') {p : Pl} (hp : ρ i = some p) :
    (∀ P : Program, (storeCells ⟨p.b, p.s + o, none⟩ vs').run P w = .ok () (w.setCells p.b (p.s + o) vs')) ∧
      Sim B ρ σ' (w.setCells p.b (p.s + o) vs') ∧ Ext ρ σ w ρ σ' (w.setCells p.b (p.s + o) vs') := by
  have hlen := hv.1
  cases vs with
  | nil =>
    obtain rfl := hv.inv_nil
    simp [St.write] at hw; subst hw
    exact ⟨fun P => rfl, h, Ext.refl _ _ _⟩
  | cons v0 vt =>
  simp only [St.write] at hw
  generalize hvs : v0 :: vt = vs at *
  cases hg : σ.get i with
  | none => rw [hg] at hw; cases hw
  | some blk =>
    obtain ⟨body, chain, shut, tag⟩ := blk
    rw [hg] at hw
    cases body with
    | map es => simp at hw
    | cells c =>
    cases shut with
    | true => simp at hw
    | false =>
    simp only [Bool.cond_eq_ite] at hw
    split at hw
    case isFalse => cases hw
    rename_i hone
    cases hc : setCells c o vs with
    | none => rw [hc] at hw; cases hw
    | some c' =>
    rw [hc] at hw
    simp only [Option.some.injEq] at hw
    subst hw
    obtain ⟨hle, rfl⟩ := (setCells_iff c o vs c').1 hc
    obtain ⟨hi, p', hp', hbr⟩ := h.live i _ hg
    rw [hp] at hp'; cases hp'
    have hB := h.own i _ p hg hp rfl
    have hbr0 := hbr
    obtain ⟨cc, e, fr, h1, h2, h3, h5⟩ := hbr
    have hfree := h.free i _ p hg hp rfl
    obtain ⟨cc', g1, g2, g3⟩ := World.setCells_self p.b vs' (p.s + o) w cc e fr h1 (by rw [h2, ← hlen]; omega)
    have hsz := World.setCells_size p.b vs' (p.s + o) w
    have hoth := World.setCells_other p.b vs' (p.s + o) w
    obtain ⟨ht1, ht2, ht3⟩ := World.setCells_tape p.b vs' (p.s + o) w
    have hbr' : BR ρ p (w.setCells p.b (p.s + o) vs') (.cells (c.take o ++ vs ++ c.drop (o + vs.length))) := by
      refine ⟨cc', e, fr, g1, g2.trans h2, by simp; omega, ?_⟩
      have hs := h5.splice hv o
      rw [g3]
      have hl' : (c.take o ++ vs ++ c.drop (o + vs.length)).length = c.length := by simp; omega
      rw [hl']
      have hcl : cc.toList.length = p.z := by simpa using h2
      have e1 := splice_eq cc.toList vs' (s := p.s) (n := c.length) (o := o) (by rw [hcl]; omega) (by omega)
      rw [← hlen] at e1 ⊢
      rw [e1]; exact hs
    refine ⟨fun P => ?_, ?_, ?_⟩
    · have := run_storeCells_cells (P := P) p.b (p.s + o) vs' 0 w (fun j hj => ?_) (fun j hj => ?_) (hv.oneCells hone)
      · simpa using this
      · simp only [World.cell?, h1]
        have : p.s + o + 0 + j < cc.size := by rw [h2]; omega
        simp [Array.getElem?_eq_getElem this]; omega
      · exact hfree.1 _ (by omega) (by omega)
    · have put : ∀ j blk, ({ σ with heap := (dropAll σ.heap chain).put i (some { body := .cells (c.take o ++ vs ++ c.drop (o + vs.length)), chain := [], shut := false, tag }) } : St).get j = some blk →
          (j = i ∧ blk = { body := .cells (c.take o ++ vs ++ c.drop (o + vs.length)), chain := [], shut := false, tag }) ∨ (j ≠ i ∧ j ∉ chain ∧ σ.get j = some blk) := by
        intro j blk hj
        rw [St.get_put] at hj
        by_cases e : j = i
        · rw [if_pos e] at hj; cases hj; exact .inl ⟨e, rfl⟩
        · rw [if_neg e] at hj; obtain ⟨a, b⟩ := dropAll_mem hj; exact .inr ⟨e, a, b⟩
      have away : ∀ j blk q, σ.get j = some blk → ρ j = some q → j ≠ i → j ∉ chain → q.b ≠ p.b := by
        intro j blk q hj hq hne hnc e
        rcases h.apart j i blk _ q p hj hg hq hp e hne with ⟨hm, _⟩ | ⟨hm, _⟩
        · exact hnc hm
        · have := h.below i j _ blk hg hj hm; cases this
      exact {
        live := fun j blk hj => by
          rcases put j blk hj with ⟨rfl, rfl⟩ | ⟨hne, hnc, hj⟩
          · exact ⟨hi, p, hp, hbr'⟩
          · obtain ⟨a, q, hq, hb⟩ := h.live j blk hj
            exact ⟨a, q, hq, hb.same (hoth _ (away j blk q hj hq hne hnc))⟩
        dom := fun j q hq => by rw [hsz]; exact h.dom j q hq
        own := fun j blk q hj hq hs => by
          rcases put j blk hj with ⟨rfl, rfl⟩ | ⟨hne, hnc, hj⟩
          · rw [hp] at hq; cases hq; exact hB
          · exact h.own j blk q hj hq hs
        free := fun j blk q hj hq hs => by
          have hf : Free q w := by
            rcases put j blk hj with ⟨rfl, rfl⟩ | ⟨hne, hnc, hj⟩
            · rw [hp] at hq; cases hq; exact hfree
            · exact h.free j blk q hj hq hs
          exact ⟨fun k h1 h2 => by rw [World.frozen?_setCells]; exact hf.1 k h1 h2, fun hm => by rw [World.frozen?_setCells]; exact hf.2 hm⟩
        apart := fun j k bj bk q r hj hk hq hr e hne => by
          rcases put j bj hj with ⟨rfl, rfl⟩ | ⟨hj1, hj2, hj3⟩
          · rcases put k bk hk with ⟨rfl, rfl⟩ | ⟨hk1, hk2, hk3⟩
            · exact absurd rfl hne
            · rw [hp] at hq; cases hq; exact absurd e.symm (away k bk r hk3 hr hk1 hk2)
          · rcases put k bk hk with ⟨rfl, rfl⟩ | ⟨hk1, hk2, hk3⟩
            · rw [hp] at hr; cases hr; exact absurd e (away j bj q hj3 hq hj1 hj2)
            · exact h.apart j k bj bk q r hj3 hk3 hq hr e hne
        below := fun j k bj bk hj hk hm => by
          rcases put k bk hk with ⟨rfl, rfl⟩ | ⟨hk1, hk2, hk3⟩
          · simp at hm
          · rcases put j bj hj with ⟨rfl, rfl⟩ | ⟨hj1, hj2, hj3⟩
            · have := h.below j k _ bk hg hk3 hm; cases this
            · exact h.below j k bj bk hj3 hk3 hm
        chain := fun j bj k hj hk => by
          rcases put j bj hj with ⟨rfl, rfl⟩ | ⟨hj1, hj2, hj3⟩
          · simp at hk
          · exact h.chain j bj k hj3 hk
        tags := fun j blk q tn hj hq ht => by
          have hf : q.s = 0 ∧ tagOk tn (w.shape? q.b) := by
            rcases put j blk hj with ⟨rfl, rfl⟩ | ⟨hne, hnc, hj⟩
            · exact h.tags _ _ q tn hg hq ht
            · exact h.tags j blk q tn hj hq ht
          rwa [World.shape?_setCells] }
    · have put : ∀ j blk, ({ σ with heap := (dropAll σ.heap chain).put i (some { body := .cells (c.take o ++ vs ++ c.drop (o + vs.length)), chain := [], shut := false, tag }) } : St).get j = some blk →
          (j = i ∧ blk = { body := .cells (c.take o ++ vs ++ c.drop (o + vs.length)), chain := [], shut := false, tag }) ∨ σ.get j = some blk := by
        intro j blk hj
        rw [St.get_put] at hj
        by_cases e : j = i
        · rw [if_pos e] at hj; cases hj; exact .inl ⟨e, rfl⟩
        · rw [if_neg e] at hj; exact .inr (dropAll_mem hj).2
      exact {
        ren := Ren.le_refl _, size := by rw [hsz]; exact Nat.le_refl _, os := ht2, output := ht3, tape := ht1, next := Nat.le_refl _
        keep := fun b hb hn => hoth b (fun e => hn i _ p hg rfl hp e.symm)
        shutAll := fun j blk q hj hq => by
          rcases put j blk hj with ⟨rfl, rfl⟩ | hj
          · exact .inr ⟨j, _, q, hg, hq, rfl⟩
          · exact .inr ⟨j, blk, q, hj, hq, rfl⟩
        shutOpen := fun j blk q hj hs hq => by
          rcases put j blk hj with ⟨rfl, rfl⟩ | hj
          · exact .inr ⟨j, _, q, hg, rfl, hq, rfl⟩
          · exact .inr ⟨j, blk, q, hj, hs, hq, rfl⟩
        lives := fun j blk hj => by
          rcases put j blk hj with ⟨rfl, rfl⟩ | hj
          · exact .inr ⟨_, hg⟩
          · exact .inr ⟨blk, hj⟩
        chains := fun j bj k hj hk => by
          rcases put j bj hj with ⟨rfl, rfl⟩ | hj
          · simp at hk
          · exact .inr ⟨j, bj, hj, .inr hk⟩
        news := fun _ _ h => .inl h }
end Go.AM
