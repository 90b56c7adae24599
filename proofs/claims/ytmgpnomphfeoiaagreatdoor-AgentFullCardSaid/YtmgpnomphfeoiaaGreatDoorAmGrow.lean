import Derived.Test.YtmgpnomphfeoiaaGreatDoorAmWrite
set_option linter.all false
namespace Go.AM
noncomputable section
/-- A map's entries change. -/
theorem Sim.mapSet {B : Nat} {ρ : Ren} {σ : St} {w : World} (h : Sim B ρ σ w) {r : Nat} {es es' : List (Value × Value)} (hg : σ.get r = some { body := .map es, chain := [], shut := false })
    {p : Pl} (hp : ρ r = some p) {ents : Array MapEntry} {clock : Nat} (hst : MapKept.Stamped ents clock)
    (hk : VRs ρ (es'.map (·.1)) (ents.toList.map (·.key))) (hv : VRs ρ (es'.map (·.2)) (ents.toList.map (·.val))) :
    Sim B ρ { σ with heap := σ.heap.put r (some { body := .map es', chain := [], shut := false }) } { w with heap := w.heap.setIfInBounds p.b (.map ents clock) } ∧
    Ext ρ σ w ρ { σ with heap := σ.heap.put r (some { body := .map es', chain := [], shut := false }) } { w with heap := w.heap.setIfInBounds p.b (.map ents clock) } := by
  generalize hσ : ({ σ with heap := σ.heap.put r (some { body := .map es', chain := [], shut := false }) } : St) = σ'
  generalize hw : ({ w with heap := w.heap.setIfInBounds p.b (.map ents clock) } : World) = w'
  obtain ⟨hi, p', hp', hbr⟩ := h.live r _ hg
  rw [hp] at hp'; cases hp'
  obtain ⟨h0, en0, cl0, hb0, _⟩ := hbr
  have hB := h.own r _ p hg hp rfl
  have hlt : p.b < w.heap.size := (h.dom r p hp).2
  have hsz : w'.heap.size = w.heap.size := by subst hw; simp
  have hoth : ∀ j, j ≠ p.b → w'.heap[j]? = w.heap[j]? := fun j hj => by subst hw; exact Array.getElem?_setIfInBounds_ne (fun e => hj e.symm)
  have hself : w'.heap[p.b]? = some (.map ents clock) := by subst hw; exact Array.getElem?_setIfInBounds_self_of_lt hlt
  have put : ∀ j blk, σ'.get j = some blk → (j = r ∧ blk = { body := .map es', chain := [], shut := false }) ∨ (j ≠ r ∧ σ.get j = some blk) := by
    intro j blk hj
    subst hσ
    rw [St.get_put] at hj
    by_cases e : j = r
    · rw [if_pos e] at hj; cases hj; exact .inl ⟨e, rfl⟩
    · rw [if_neg e] at hj; exact .inr ⟨e, hj⟩
  have hnx : σ'.next = σ.next := by subst hσ; rfl
  have same : ∀ j blk q, σ.get j = some blk → ρ j = some q → j ≠ r → q.b ≠ p.b := by
    intro j blk q hj hq hne e
    rcases h.apart j r blk _ q p hj hg hq hp e hne with ⟨hm, _⟩ | ⟨hm, _⟩
    · simp at hm
    · have := h.below r j _ blk hg hj hm; cases this
  refine ⟨{ live := ?_, dom := ?_, own := ?_, free := ?_, apart := ?_, below := ?_, chain := ?_, tags := fun j blk q tn hj hq ht => by
                                        rcases put j blk hj with ⟨rfl, rfl⟩ | ⟨hne, hj⟩
                                        · cases ht
                                        · have := h.tags j blk q tn hj hq ht
                                          rw [World.shape_same (hoth _ (same j blk q hj hq hne))]; exact this }, { ren := Ren.le_refl _, size := by rw [hsz]; exact Nat.le_refl _, os := by subst hw; rfl, output := by subst hw; rfl, tape := by subst hw; rfl, next := by rw [hnx]; exact Nat.le_refl _, keep := ?_, shutAll := ?_, shutOpen := ?_, lives := ?_, chains := ?_, news := ?_ }⟩
  · intro j blk hj
    rw [hnx]
    rcases put j blk hj with ⟨rfl, rfl⟩ | ⟨hne, hj⟩
    · exact ⟨hi, p, hp, h0, ents, clock, hself, hst, hk, hv⟩
    · obtain ⟨a, q, hq, hb⟩ := h.live j blk hj
      exact ⟨a, q, hq, hb.same (hoth _ (same j blk q hj hq hne))⟩
  · intro j q hq; rw [hnx, hsz]; exact h.dom j q hq
  · intro j blk q hj hq hs
    rcases put j blk hj with ⟨rfl, rfl⟩ | ⟨hne, hj⟩
    · rw [hp] at hq; cases hq; exact hB
    · exact h.own j blk q hj hq hs
  · intro j blk q hj hq hs
    rcases put j blk hj with ⟨rfl, rfl⟩ | ⟨hne, hj⟩
    · rw [hp] at hq; cases hq
      exact ⟨fun k _ _ => by simp only [World.frozen?, hself], fun _ => by simp only [World.frozen?, hself]⟩
    · exact (h.free j blk q hj hq hs).same (hoth _ (same j blk q hj hq hne))
  · intro j k bj bk q s hj hk hq hs e hne
    rcases put j bj hj with ⟨rfl, rfl⟩ | ⟨hj1, hj2⟩
    · rcases put k bk hk with ⟨rfl, rfl⟩ | ⟨hk1, hk2⟩
      · exact absurd rfl hne
      · rw [hp] at hq; cases hq; exact absurd e.symm (same k bk s hk2 hs hk1)
    · rcases put k bk hk with ⟨rfl, rfl⟩ | ⟨hk1, hk2⟩
      · rw [hp] at hs; cases hs; exact absurd e (same j bj q hj2 hq hj1)
      · exact h.apart j k bj bk q s hj2 hk2 hq hs e hne
  · intro j k bj bk hj hk hm
    rcases put k bk hk with ⟨rfl, rfl⟩ | ⟨hk1, hk2⟩
    · simp at hm
    · rcases put j bj hj with ⟨rfl, rfl⟩ | ⟨hj1, hj2⟩
      · have := h.below j k _ bk hg hk2 hm; cases this
      · exact h.below j k bj bk hj2 hk2 hm
  · intro j bj k hj hk
    rw [hnx]
    rcases put j bj hj with ⟨rfl, rfl⟩ | ⟨hj1, hj2⟩
    · simp at hk
    · exact h.chain j bj k hj2 hk
  · intro b _ hn; exact hoth b (fun e => hn r _ p hg rfl hp e.symm)
  · intro j blk q hj hq
    rcases put j blk hj with ⟨rfl, rfl⟩ | ⟨_, hj⟩
    · exact .inr ⟨j, _, q, hg, hq, rfl⟩
    · exact .inr ⟨j, blk, q, hj, hq, rfl⟩
  · intro j blk q hj hs hq
    rcases put j blk hj with ⟨rfl, rfl⟩ | ⟨_, hj⟩
    · exact .inr ⟨j, _, q, hg, rfl, hq, rfl⟩
    · exact .inr ⟨j, blk, q, hj, hs, hq, rfl⟩
  · intro j blk hj
    rcases put j blk hj with ⟨rfl, rfl⟩ | ⟨_, hj⟩
    · exact .inr ⟨_, hg⟩
    · exact .inr ⟨blk, hj⟩
  · intro j bj k hj hk
    rcases put j bj hj with ⟨rfl, rfl⟩ | ⟨_, hj⟩
    · simp at hk
    · exact .inr ⟨j, bj, hj, .inr hk⟩
  · exact fun _ _ h => .inl h
/-- The state behind an append that may have gone on in place: the old block is shut, the new one lies over it. -/
def grown (σ : St) (i : Nat) (c : List Value) (chain : List Nat) (l : List Value) (tg : Option (Nat × Nat)) : St :=
  { heap := (σ.heap.put i (some { body := .cells c, chain, shut := true })).put σ.next (some { body := .cells l, chain := i :: chain, shut := false, tag := tg }), next := σ.next + 1 }
theorem grown_get {σ : St} {i : Nat} {c : List Value} {chain : List Nat} {l : List Value} {tg : Option (Nat × Nat)} {j : Nat} {blk : Blk} (h : (grown σ i c chain l tg).get j = some blk) :
    (j = σ.next ∧ blk = { body := .cells l, chain := i :: chain, shut := false, tag := tg }) ∨ (j ≠ σ.next ∧ j = i ∧ blk = { body := .cells c, chain, shut := true }) ∨ (j ≠ σ.next ∧ j ≠ i ∧ σ.get j = some blk) := by
  rw [grown, St.get_put] at h
  by_cases e : j = σ.next
  · rw [if_pos e] at h; cases h; exact .inl ⟨e, rfl⟩
  · rw [if_neg e, Tr.get_put] at h
    by_cases e' : j = i
    · rw [if_pos e'] at h; cases h; exact .inr (.inl ⟨e, e', rfl⟩)
    · rw [if_neg e'] at h; exact .inr (.inr ⟨e, e', h⟩)
/-- (1) new memory: the old block is left as it was, but shut. -/
theorem Sim.growNew {B : Nat} {ρ : Ren} {σ : St} {w w' : World} (h : Sim B ρ σ w) (hB : B ≤ w.heap.size) {o : Obj} (hm : World.more w w' o) {i : Nat} {c l : List Value} {chain : List Nat}
    {tag tg : Option (Nat × Nat)} (hg : σ.get i = some { body := .cells c, chain, shut := false, tag }) {p : Pl} (hp : p.b = w.heap.size) (hbr : BR (ρ.put σ.next p) p w' (.cells l)) (hfr : Free p w') (htg : ∀ tn, tg = some tn → p.s = 0 ∧ tagOk tn (w'.shape? p.b)) :
    Sim B (ρ.put σ.next p) (grown σ i c chain l tg) w' ∧ Ext ρ σ w (ρ.put σ.next p) (grown σ i c chain l tg) w' := by
  obtain ⟨f1, f2, f3⟩ := h.fresh (Nat.le_refl σ.next)
  have hsz : w'.heap.size = w.heap.size + 1 := by rw [hm.1]; simp
  have hle := Ren.put_le (p := p) f1
  have hi := (h.live i _ hg).1
  have old : ∀ j blk, (grown σ i c chain l tg).get j = some blk → (j = σ.next ∧ blk = { body := .cells l, chain := i :: chain, shut := false, tag := tg }) ∨
      (j ≠ σ.next ∧ ∃ blk', σ.get j = some blk' ∧ blk'.body = blk.body ∧ blk'.chain = blk.chain ∧ (blk.shut = false → blk'.shut = false) ∧ (blk'.shut = true → blk.shut = true) ∧ (j = i → blk.shut = true)) := by
    intro j blk hj
    rcases grown_get hj with h1 | ⟨h1, rfl, rfl⟩ | ⟨h1, h2, h3⟩
    · exact .inl h1
    · exact .inr ⟨h1, _, hg, rfl, rfl, by simp, by simp, by simp⟩
    · exact .inr ⟨h1, blk, h3, rfl, rfl, id, id, fun e => absurd e h2⟩
  have hren : ∀ j q, j ≠ σ.next → ρ.put σ.next p j = some q → ρ j = some q := fun j q hj hq => by rwa [Ren.put_ne _ _ hj] at hq
  refine ⟨{ live := ?_, dom := ?_, own := ?_, free := ?_, apart := ?_, below := ?_, chain := ?_, tags := fun j blk q tn hj hq ht => by
                                        rcases grown_get hj with ⟨rfl, rfl⟩ | ⟨_, rfl, rfl⟩ | ⟨h1, h2, h3⟩
                                        · rw [Ren.put_self] at hq; cases hq; exact htg tn ht
                                        · cases ht
                                        · have hq' := hren j q h1 hq
                                          rw [World.shape_same (World.more_old hm (h.dom j q hq').2)]; exact h.tags j blk q tn h3 hq' ht }, { ren := hle, size := by omega, os := hm.2.1, output := hm.2.2.1, tape := hm.2.2.2, next := Nat.le_succ _, keep := fun b hb _ => World.more_old hm hb, shutAll := ?_, shutOpen := ?_, lives := ?_, chains := ?_, news := ?_ }⟩
  · intro j blk hj
    rcases old j blk hj with ⟨rfl, rfl⟩ | ⟨hn, blk', h1, h2, _⟩
    · exact ⟨Nat.lt_succ_self _, p, Ren.put_self _ _ _, hbr⟩
    · obtain ⟨a, q, hq, hb⟩ := h.live j blk' h1
      rw [h2] at hb
      exact ⟨Nat.lt_succ_of_lt a, q, hle _ _ hq, (hb.mono hle).same (World.more_old hm (h.dom j q hq).2)⟩
  · intro j q hq
    by_cases e : j = σ.next
    · subst e; rw [Ren.put_self] at hq; cases hq; exact ⟨Nat.lt_succ_self _, by omega⟩
    · obtain ⟨a, b⟩ := h.dom j q (hren j q e hq); exact ⟨Nat.lt_succ_of_lt a, by omega⟩
  · intro j blk q hj hq hs
    rcases old j blk hj with ⟨rfl, rfl⟩ | ⟨hn, blk', h1, h2, h3, h4, _⟩
    · rw [Ren.put_self] at hq; cases hq; omega
    · exact h.own j blk' q h1 (hren j q hn hq) (h4 hs)
  · intro j blk q hj hq hs
    rcases old j blk hj with ⟨rfl, rfl⟩ | ⟨hn, blk', h1, h2, h3, h4, _⟩
    · rw [Ren.put_self] at hq; cases hq; exact hfr
    · exact (h.free j blk' q h1 (hren j q hn hq) (h4 hs)).same (World.more_old hm (h.dom j q (hren j q hn hq)).2)
  · intro j k bj bk q r hj hk hq hr e hne
    rcases old j bj hj with ⟨rfl, rfl⟩ | ⟨hn, bj', h1, h2, h3, _⟩
    · rcases old k bk hk with ⟨rfl, rfl⟩ | ⟨hn', bk', g1, g2, g3, _⟩
      · exact absurd rfl hne
      · rw [Ren.put_self] at hq; cases hq
        have := (h.dom k r (hren k r hn' hr)).2; omega
    · rcases old k bk hk with ⟨rfl, rfl⟩ | ⟨hn', bk', g1, g2, g3, _⟩
      · rw [Ren.put_self] at hr; cases hr
        have := (h.dom j q (hren j q hn hq)).2; omega
      · have := h.apart j k bj' bk' q r h1 g1 (hren j q hn hq) (hren k r hn' hr) e hne
        rwa [h2, h3, g2, g3] at this
  · intro j k bj bk hj hk hm'
    rcases old j bj hj with ⟨rfl, rfl⟩ | ⟨hn, bj', h1, h2, h3, h4, h5, h6⟩
    · rcases old k bk hk with ⟨rfl, rfl⟩ | ⟨hn', bk', g1, g2, g3, _⟩
      · rcases List.mem_cons.1 hm' with e | e
        · omega
        · exact absurd e (f3 i _ hg)
      · rw [← g3] at hm'; exact absurd hm' (f3 k bk' g1)
    · rcases old k bk hk with ⟨rfl, rfl⟩ | ⟨hn', bk', g1, g2, g3, _⟩
      · rcases List.mem_cons.1 hm' with e | e
        · exact h6 e
        · exact h5 (h.below j i bj' _ h1 hg e)
      · rw [← g3] at hm'; exact h5 (h.below j k bj' bk' h1 g1 hm')
  · intro j bj k hj hk
    rcases old j bj hj with ⟨rfl, rfl⟩ | ⟨hn, bj', h1, h2, h3, _⟩
    · rcases List.mem_cons.1 hk with e | e
      · subst e; exact Nat.lt_succ_of_lt hi
      · exact Nat.lt_succ_of_lt (h.chain i _ k hg e)
    · rw [← h3] at hk; exact Nat.lt_succ_of_lt (h.chain j bj' k h1 hk)
  · intro j blk q hj hq
    rcases old j blk hj with ⟨rfl, rfl⟩ | ⟨hn, blk', h1, _⟩
    · rw [Ren.put_self] at hq; cases hq; exact .inl (by omega)
    · exact .inr ⟨j, blk', q, h1, hren j q hn hq, rfl⟩
  · intro j blk q hj hs hq
    rcases old j blk hj with ⟨rfl, rfl⟩ | ⟨hn, blk', h1, h2, h3, h4, _⟩
    · rw [Ren.put_self] at hq; cases hq; exact .inl (by omega)
    · exact .inr ⟨j, blk', q, h1, h4 hs, hren j q hn hq, rfl⟩
  · intro j blk hj
    rcases old j blk hj with ⟨rfl, rfl⟩ | ⟨hn, blk', h1, _⟩
    · exact .inl (Nat.le_refl _)
    · exact .inr ⟨blk', h1⟩
  · intro j bj k hj hk
    rcases old j bj hj with ⟨rfl, rfl⟩ | ⟨hn, bj', h1, h2, h3, _⟩
    · rcases List.mem_cons.1 hk with e | e
      · exact .inr ⟨i, _, hg, .inl e⟩
      · exact .inr ⟨i, _, hg, .inr e⟩
    · rw [← h3] at hk; exact .inr ⟨j, bj', h1, .inr hk⟩
  · intro j q hq
    by_cases e : j = σ.next
    · exact .inr (by omega)
    · exact .inl (hren j q e hq)
end
end Go.AM
