import Derived.Test.YtmgpnomphfeoiaaGreatDoorAmGrow
set_option linter.all false
namespace Go.AM
theorem prefix_eq (A X : List Value) {e s n : Nat} (h : s + n ≤ e) (he : e ≤ A.length) : ((A.take e ++ X).drop s).take n = (A.drop s).take n := by
  apply List.ext_getElem?
  intro k
  rw [List.getElem?_take, List.getElem?_take]
  split
  · rw [List.getElem?_drop, List.getElem?_drop, List.getElem?_append_left (by simp; omega), List.getElem?_take, if_pos (by omega)]
  · rfl
theorem tail_eq (L V X : List Value) {s o n : Nat} (h : s + n ≤ L.length) (ho : o ≤ n) :
    ((L.take (s + n) ++ (V ++ X)).drop (s + o)).take (n - o + V.length) = ((L.drop s).take n).drop o ++ V := by
  obtain ⟨A, L1, rfl, hA⟩ : ∃ A L1, L = A ++ L1 ∧ A.length = s := ⟨L.take s, L.drop s, (List.take_append_drop _ _).symm, by simp; omega⟩
  obtain ⟨C1, L2, rfl, h1⟩ : ∃ A L2, L1 = A ++ L2 ∧ A.length = o := ⟨L1.take o, L1.drop o, (List.take_append_drop _ _).symm, by simp at h ⊢; omega⟩
  obtain ⟨C2, D, rfl, h2⟩ : ∃ A D, L2 = A ++ D ∧ A.length = n - o := ⟨L2.take (n - o), L2.drop (n - o), (List.take_append_drop _ _).symm, by simp at h ⊢; omega⟩
  have e1 : (A ++ (C1 ++ (C2 ++ D))).take (s + n) = A ++ (C1 ++ C2) := by rw [show A ++ (C1 ++ (C2 ++ D)) = (A ++ (C1 ++ C2)) ++ D by simp, List.take_left' (by simp; omega)]
  have e2 : (A ++ (C1 ++ (C2 ++ D))).drop s = C1 ++ (C2 ++ D) := List.drop_left' hA
  have e3 : (C1 ++ (C2 ++ D)).take n = C1 ++ C2 := by rw [← List.append_assoc, List.take_left' (by simp; omega)]
  rw [e1, e2, e3, List.drop_left' h1, show A ++ (C1 ++ C2) ++ (V ++ X) = (A ++ C1) ++ ((C2 ++ V) ++ X) by simp, List.drop_left' (by simp; omega), List.take_left' (by simp; omega)]
/-- (2) in place. -/
theorem Sim.growPlace {B : Nat} {ρ : Ren} {σ : St} {w : World} (h : Sim B ρ σ w) {i o : Nat} {c vs vs' : List Value} {chain : List Nat}
    {tag tg : Option (Nat × Nat)} (hg : σ.get i = some { body := .cells c, chain, shut := false, tag }) {p : Pl} (hp : ρ i = some p) (ho : o ≤ c.length) (hv : VRs ρ vs vs') (h1 : oneCells vs = true) (hz : p.s + c.length + vs.length ≤ p.z) (htg : ∀ tn, tg = some tn → o = 0 ∧ tag = some tn) :
    (∀ P : Program, (storeCells ⟨p.b, p.s + c.length, none⟩ vs').run P w = .ok () (w.setCells p.b (p.s + c.length) vs')) ∧
    Sim B (ρ.put σ.next { b := p.b, s := p.s + o, z := p.z, m := p.m }) (grown σ i c chain (c.drop o ++ vs) tg) (w.setCells p.b (p.s + c.length) vs') ∧
    Ext ρ σ w (ρ.put σ.next { b := p.b, s := p.s + o, z := p.z, m := p.m }) (grown σ i c chain (c.drop o ++ vs) tg) (w.setCells p.b (p.s + c.length) vs') := by
  obtain ⟨f1, f2, f3⟩ := h.fresh (Nat.le_refl σ.next)
  obtain ⟨hi, p', hp', hbr⟩ := h.live i _ hg
  rw [hp] at hp'; cases hp'
  have hB := h.own i _ p hg hp rfl
  have hfree := h.free i _ p hg hp rfl
  obtain ⟨cc, e, fr, b1, b2, b3, b4⟩ := hbr
  have hlen := hv.1
  have hle := Ren.put_le (p := { b := p.b, s := p.s + o, z := p.z, m := p.m }) f1
  generalize hP : ({ b := p.b, s := p.s + o, z := p.z, m := p.m } : Pl) = P' at *
  have P1 : P'.b = p.b := by rw [← hP]
  have P2 : P'.s = p.s + o := by rw [← hP]
  have P3 : P'.z = p.z := by rw [← hP]
  have P4 : P'.m = p.m := by rw [← hP]
  have hccl : cc.toList.length = p.z := by simpa using b2
  obtain ⟨cc', g1, g2, g3⟩ := World.setCells_self p.b vs' (p.s + c.length) w cc e fr b1 (by rw [b2, ← hlen]; omega)
  have hsz := World.setCells_size p.b vs' (p.s + c.length) w
  have hoth := World.setCells_other p.b vs' (p.s + c.length) w
  obtain ⟨ht1, ht2, ht3⟩ := World.setCells_tape p.b vs' (p.s + c.length) w
  have hfz := World.frozen?_setCells p.b vs' (p.s + c.length) w
  generalize hw : w.setCells p.b (p.s + c.length) vs' = w' at *
  have old : ∀ j blk, (grown σ i c chain (c.drop o ++ vs) tg).get j = some blk → (j = σ.next ∧ blk = { body := .cells (c.drop o ++ vs), chain := i :: chain, shut := false, tag := tg }) ∨
      (j ≠ σ.next ∧ ∃ blk', σ.get j = some blk' ∧ blk'.body = blk.body ∧ blk'.chain = blk.chain ∧ (blk.shut = false → blk'.shut = false) ∧ (blk'.shut = true → blk.shut = true) ∧ (j = i → blk.shut = true)) := by
    intro j blk hj
    rcases grown_get hj with h1 | ⟨h1, rfl, rfl⟩ | ⟨h1, h2, h3⟩
    · exact .inl h1
    · exact .inr ⟨h1, _, hg, rfl, rfl, by simp, by simp, by simp⟩
    · exact .inr ⟨h1, blk, h3, rfl, rfl, id, id, fun e => absurd e h2⟩
  have hren : ∀ j q, j ≠ σ.next → ρ.put σ.next P' j = some q → ρ j = some q := fun j q hj hq => by rwa [Ren.put_ne _ _ hj] at hq
  -- whoever else lies in this block lies below i, and ends no later
  have mates : ∀ j blk q, σ.get j = some blk → ρ j = some q → q.b = p.b → j = i ∨ (j ∈ chain ∧ q.s + blk.body.len ≤ p.s + c.length) := by
    intro j blk q hj hq e
    by_cases hne : j = i
    · exact .inl hne
    · rcases h.apart j i blk _ q p hj hg hq hp e hne with hm | ⟨hm, _⟩
      · exact .inr hm
      · have := h.below i j _ blk hg hj hm; cases this
  have stay : ∀ j blk q, σ.get j = some blk → ρ j = some q → BR ρ q w blk.body → BR ρ q w' blk.body := by
    intro j blk q hj hq hb
    by_cases e : q.b = p.b
    · have hend : q.s + blk.body.len ≤ p.s + c.length := by
        rcases mates j blk q hj hq e with rfl | ⟨_, hm⟩
        · rw [hg] at hj; cases hj; rw [hp] at hq; cases hq; exact Nat.le_refl _
        · exact hm
      obtain ⟨body, ch, sh, tg⟩ := blk
      cases body with
      | map es => obtain ⟨_, en, cl, hb, _⟩ := hb; rw [e, b1] at hb; cases hb
      | cells d =>
        obtain ⟨dd, el, fr', d1, d2, d3, d4⟩ := hb
        rw [e, b1] at d1; cases d1
        have hend' : q.s + d.length ≤ p.s + c.length := hend
        refine ⟨cc', _, _, by rw [e]; exact g1, g2.trans d2, d3, ?_⟩
        rw [g3, List.append_assoc, prefix_eq cc.toList _ hend' (by omega)]
        exact d4
    · exact hb.same (hoth _ e)
  refine ⟨fun P => ?_, { live := ?_, dom := ?_, own := ?_, free := ?_, apart := ?_, below := ?_, chain := ?_, tags := fun j blk q tn hj hq ht => by
                                        rcases grown_get hj with ⟨rfl, rfl⟩ | ⟨_, rfl, rfl⟩ | ⟨h1, h2, h3⟩
                                        · rw [Ren.put_self] at hq; cases hq; obtain ⟨t1, t2⟩ := htg tn ht; obtain ⟨t3, t4⟩ := h.tags i _ p tn hg hp t2; rw [P1, P2, t3, t1, ← hw, World.shape?_setCells]; exact ⟨rfl, t4⟩
                                        · cases ht
                                        · rw [← hw, World.shape?_setCells]; exact h.tags j blk q tn h3 (hren j q h1 hq) ht }, { ren := hle, size := by rw [hsz]; exact Nat.le_refl _, os := ht2, output := ht3, tape := ht1, next := Nat.le_succ _, keep := ?_, shutAll := ?_, shutOpen := ?_, lives := ?_, chains := ?_, news := ?_ }⟩
  · have := run_storeCells_cells (P := P) p.b (p.s + c.length) vs' 0 w (fun j hj => ?_) (fun j hj => ?_) (hv.oneCells h1)
    · rw [← hw]; simpa using this
    · simp only [World.cell?, b1]
      have : p.s + c.length + 0 + j < cc.size := by rw [b2]; omega
      simp [Array.getElem?_eq_getElem this]; omega
    · exact hfree.1 _ (by omega) (by omega)
  · intro j blk hj
    rcases old j blk hj with ⟨rfl, rfl⟩ | ⟨hn, blk', h1, h2, _⟩
    · refine ⟨Nat.lt_succ_self _, P', Ren.put_self _ _ _, cc', e, fr, by rw [P1]; exact g1, by rw [P3]; exact g2.trans b2, by rw [P2, P3]; simp; omega, ?_⟩
      have ea : ((cc'.toList.drop P'.s).take (c.drop o ++ vs).length) = ((cc.toList.drop p.s).take c.length).drop o ++ vs' := by
        rw [g3, P2, List.append_assoc, show (c.drop o ++ vs).length = c.length - o + vs'.length by simp [hlen], tail_eq cc.toList vs' _ (by omega) ho]
      rw [ea]
      exact ((b4.drop o).append hv).mono hle
    · obtain ⟨a, q, hq, hb⟩ := h.live j blk' h1
      have hb' := stay j blk' q h1 hq hb
      rw [h2] at hb'
      exact ⟨Nat.lt_succ_of_lt a, q, hle _ _ hq, hb'.mono hle⟩
  · intro j q hq
    rw [hsz]
    by_cases ej : j = σ.next
    · subst ej; rw [Ren.put_self] at hq; cases hq; exact ⟨Nat.lt_succ_self _, by rw [P1]; exact (h.dom i p hp).2⟩
    · obtain ⟨a, b⟩ := h.dom j q (hren j q ej hq); exact ⟨Nat.lt_succ_of_lt a, b⟩
  · intro j blk q hj hq hs
    rcases old j blk hj with ⟨rfl, rfl⟩ | ⟨hn, blk', h1, h2, h3, h4, _⟩
    · rw [Ren.put_self] at hq; cases hq; rw [P1]; exact hB
    · exact h.own j blk' q h1 (hren j q hn hq) (h4 hs)
  · intro j blk q hj hq hs
    have hf : Free q w := by
      rcases old j blk hj with ⟨rfl, rfl⟩ | ⟨hn, blk', h1, h2, h3, h4, _⟩
      · rw [Ren.put_self] at hq; cases hq
        exact ⟨fun k hk1 hk2 => by rw [P1]; exact hfree.1 k (by omega) (by omega), fun hm => by rw [P1, P3]; exact hfree.2 (P4 ▸ hm)⟩
      · exact h.free j blk' q h1 (hren j q hn hq) (h4 hs)
    exact ⟨fun k h1 h2 => by rw [hfz]; exact hf.1 k h1 h2, fun hm => by rw [hfz]; exact hf.2 hm⟩
  · intro j k bj bk q r hj hk hq hr e hne
    rcases old j bj hj with ⟨rfl, rfl⟩ | ⟨hn, bj', h1, h2, h3, _⟩
    · rcases old k bk hk with ⟨rfl, rfl⟩ | ⟨hn', bk', g1, g2, g3, _⟩
      · exact absurd rfl hne
      · rw [Ren.put_self] at hq; cases hq
        have hr' := hren k r hn' hr
        right
        rcases mates k bk' r g1 hr' (by rw [← e, P1]) with rfl | ⟨hm, hl⟩
        · rw [hg] at g1; cases g1; rw [hp] at hr'; cases hr'
          exact ⟨List.mem_cons_self, by rw [← g2, P2]; simp [Body.len]; omega⟩
        · exact ⟨List.mem_cons_of_mem _ hm, by rw [← g2, P2]; simp [Body.len] at hl ⊢; omega⟩
    · rcases old k bk hk with ⟨rfl, rfl⟩ | ⟨hn', bk', g1, g2, g3, _⟩
      · rw [Ren.put_self] at hr; cases hr
        have hq' := hren j q hn hq
        left
        rcases mates j bj' q h1 hq' (by rw [e, P1]) with rfl | ⟨hm, hl⟩
        · rw [hg] at h1; cases h1; rw [hp] at hq'; cases hq'
          exact ⟨List.mem_cons_self, by rw [← h2, P2]; simp [Body.len]; omega⟩
        · exact ⟨List.mem_cons_of_mem _ hm, by rw [← h2, P2]; simp [Body.len] at hl ⊢; omega⟩
      · have := h.apart j k bj' bk' q r h1 g1 (hren j q hn hq) (hren k r hn' hr) e hne
        rwa [h2, h3, g2, g3] at this
  · intro j k bj bk hj hk hm'
    rcases old j bj hj with ⟨rfl, rfl⟩ | ⟨hn, bj', h1, h2, h3, h4, h5, h6⟩
    · rcases old k bk hk with ⟨rfl, rfl⟩ | ⟨hn', bk', g1, g2, g3, _⟩
      · rcases List.mem_cons.1 hm' with e | e
        · omega
        · exact absurd e (f3 i _ hg)
      · rw [← g3] at hm'; exact absurd hm' (f3 k bk' g1)
    · rcases old k bk hk with ⟨rfl, rfl⟩ | ⟨hn', bk', g1, g2, g3, _⟩
      · rcases List.mem_cons.1 hm' with e | e
        · exact h6 e
        · exact h5 (h.below j i bj' _ h1 hg e)
      · rw [← g3] at hm'; exact h5 (h.below j k bj' bk' h1 g1 hm')
  · intro j bj k hj hk
    rcases old j bj hj with ⟨rfl, rfl⟩ | ⟨hn, bj', h1, h2, h3, _⟩
    · rcases List.mem_cons.1 hk with e | e
      · subst e; exact Nat.lt_succ_of_lt hi
      · exact Nat.lt_succ_of_lt (h.chain i _ k hg e)
    · rw [← h3] at hk; exact Nat.lt_succ_of_lt (h.chain j bj' k h1 hk)
  · intro b _ hn; exact hoth b (fun e => hn i _ p hg rfl hp e.symm)
  · intro j blk q hj hq
    rcases old j blk hj with ⟨rfl, rfl⟩ | ⟨hn, blk', h1, _⟩
    · rw [Ren.put_self] at hq; cases hq; exact .inr ⟨i, _, p, hg, hp, P1.symm⟩
    · exact .inr ⟨j, blk', q, h1, hren j q hn hq, rfl⟩
  · intro j blk q hj hs hq
    rcases old j blk hj with ⟨rfl, rfl⟩ | ⟨hn, blk', h1, h2, h3, h4, _⟩
    · rw [Ren.put_self] at hq; cases hq; exact .inr ⟨i, _, p, hg, rfl, hp, P1.symm⟩
    · exact .inr ⟨j, blk', q, h1, h4 hs, hren j q hn hq, rfl⟩
  · intro j blk hj
    rcases old j blk hj with ⟨rfl, rfl⟩ | ⟨hn, blk', h1, _⟩
    · exact .inl (Nat.le_refl _)
    · exact .inr ⟨blk', h1⟩
  · intro j bj k hj hk
    rcases old j bj hj with ⟨rfl, rfl⟩ | ⟨hn, bj', h1, h2, h3, _⟩
    · rcases List.mem_cons.1 hk with e | e
      · exact .inr ⟨i, _, hg, .inl e⟩
      · exact .inr ⟨i, _, hg, .inr e⟩
    · rw [← h3] at hk; exact .inr ⟨j, bj', h1, .inr hk⟩
  · intro j q hq
    by_cases e : j = σ.next
    · exact .inr (by omega)
    · exact .inl (hren j q e hq)
end Go.AM
