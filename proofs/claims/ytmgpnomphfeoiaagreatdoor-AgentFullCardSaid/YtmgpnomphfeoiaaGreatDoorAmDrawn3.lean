import Derived.Test.YtmgpnomphfeoiaaGreatDoorAmDrawn2
set_option linter.all false
namespace Go.AM
section
variable {P : Program} {X : Prims} {call : Caller} {ops : Array Oper} {base : Nat} {ms : List Nat} {plan : List (Nat × Nat)} {S : Nat → DS} {V : Nat → Value} {B : Nat}
variable {ρ0 : Ren} {σ0 : St} {w0 : World} {D : Nat → Prop} {p : Nat} {ρ : Ren} {ac : Go.Act} {w : World}
theorem operand_read {all : List Oper} {o : Oper} {t : Nat} (h : Operand.tmp t ∈ o.op.operands) : t ∈ readsOf all o := by
  unfold readsOf
  rw [List.mem_append]
  left
  rw [List.mem_filterMap]
  exact ⟨.tmp t, Array.mem_toList_iff.2 h, rfl⟩
theorem guard_read {all : List Oper} {o g : Oper} {j d : Nat} {want : Bool} (h : o.guard = some (j, want)) (hg : all[j]? = some g) (hd : g.dst = some d) : d ∈ readsOf all o := by
  unfold readsOf
  rw [List.mem_append]
  right
  rw [h]
  simp only [hg, hd, List.mem_singleton]
theorem put_size {a a' : AM.Act} {d : Nat} {v : Value} (h : a.put (some d) v = some a') : d < a.size := by
  simp only [AM.Act.put, Bool.cond_eq_ite, Nat.blt_eq] at h
  split at h
  · rename_i hh; exact hh
  · cases h
/-- What a ready operation writes. -/
theorem Inv.write_done (hP : Plan ops.toList ms plan) (hR : DRun P X call ops.toList base plan S V) {ρ' : Ren} {ac : Go.Act} {D : Nat → Prop} {q i m : Nat} {o : Oper} (hq : plan[q]? = some (i, m)) (hd : DStep P X call ops.toList base i m (S q) (S (q + 1)) o (V q))
    (hsize : (S 0).a.size = ac.tmps.size) {v' : Value} (hv : VR ρ' (V q) v')
    (done : ∀ (q i m : Nat) (o : Oper) (t : Nat), plan[q]? = some (i, m) → ops.toList[i]? = some o → o.dst = some t → D i → VR ρ' (V q) (ac.tmps.getD t Go.undef))
    (open_ : ∀ (t : Nat), (∀ (q i m : Nat) (o : Oper), plan[q]? = some (i, m) → ops.toList[i]? = some o → o.dst = some t → ¬ D i) → VR ρ' ((S 0).a.look t) (ac.tmps.getD t Go.undef)) :
    (S 0).a.size = (ac.put o.dst v').tmps.size ∧ (ac.put o.dst v').defers = ac.defers ∧
    (∀ (q' i' m' : Nat) (o' : Oper) (t : Nat), plan[q']? = some (i', m') → ops.toList[i']? = some o' → o'.dst = some t → (D i' ∨ i' = i) → VR ρ' (V q') ((ac.put o.dst v').tmps.getD t Go.undef)) ∧
    (∀ (t : Nat), (∀ (q' i' m' : Nat) (o' : Oper), plan[q']? = some (i', m') → ops.toList[i']? = some o' → o'.dst = some t → ¬ (D i' ∨ i' = i)) → VR ρ' ((S 0).a.look t) ((ac.put o.dst v').tmps.getD t Go.undef)) := by
  have hlt : q < plan.length := (List.getElem?_eq_some_iff.1 hq).1
  have uniq : ∀ (q' m' : Nat), plan[q']? = some (i, m') → q' = q := by
    intro q' m' h
    rcases Nat.lt_trichotomy q' q with hh | hh | hh
    · obtain ⟨_, _, _, hu, _⟩ := hP.at_ q i m hq
      exact absurd h (hu q' m' hh)
    · exact hh
    · obtain ⟨_, _, _, hu, _⟩ := hP.at_ q' i m' h
      exact absurd hq (hu q m hh)
  cases ho : o.dst with
  | none =>
    refine ⟨hsize, rfl, fun q' i' m' o' t h1 h2 h3 h4 => ?_, fun t hno => ?_⟩
    · rcases h4 with h4 | rfl
      · exact done q' i' m' o' t h1 h2 h3 h4
      · rw [hd.op] at h2; cases h2; rw [ho] at h3; cases h3
    · exact open_ t fun q' i' m' o' h1 h2 h3 h4 => hno q' i' m' o' h1 h2 h3 (.inl h4)
  | some d =>
    have hdl : d < ac.tmps.size := by
      have hp := hd.put
      rw [ho] at hp
      have := put_size hp
      rw [(size_at hR q (by omega)).1, hsize] at this
      exact this
    have hself : (ac.put (some d) v').tmps.getD d Go.undef = v' := by
      simp only [Go.Act.put]
      rw [Array.getD_eq_getD_getElem?, Array.getElem?_setIfInBounds_self_of_lt hdl]; rfl
    have hoth : ∀ t, t ≠ d → (ac.put (some d) v').tmps.getD t Go.undef = ac.tmps.getD t Go.undef := fun t ht => by
      simp only [Go.Act.put]
      rw [Array.getD_eq_getD_getElem?, Array.getElem?_setIfInBounds_ne (fun e => ht e.symm), ← Array.getD_eq_getD_getElem?]
    refine ⟨by simp [Go.Act.put]; exact hsize, rfl, fun q' i' m' o' t h1 h2 h3 h4 => ?_, fun t hno => ?_⟩
    · by_cases e : i' = i
      · subst e
        have := uniq q' m' h1
        subst this
        rw [hd.op] at h2; cases h2
        rw [ho] at h3; cases h3
        rw [hself]; exact hv
      · have ht : t ≠ d := by
          rintro rfl
          exact hP.once i i' o o' t (fun h => e h.symm) hd.op h2 h3 ho
        rw [hoth t ht]
        exact done q' i' m' o' t h1 h2 h3 (h4.resolve_right e)
    · have ht : t ≠ d := by
        rintro rfl
        exact hno q i m o hq hd.op ho (.inr rfl)
      rw [hoth t ht]
      exact open_ t fun q' i' m' o' h1 h2 h3 h4 => hno q' i' m' o' h1 h2 h3 (.inl h4)
/-- One more operation, and memory as it was. -/
theorem Inv.same (hP : Plan ops.toList ms plan) (hR : DRun P X call ops.toList base plan S V) (I : Inv P ops base plan S V B ρ0 σ0 w0 D p ρ ac w) {q i m : Nat} {o : Oper} (hpq : p ≤ q) (hq : plan[q]? = some (i, m)) (hd : DStep P X call ops.toList base i m (S q) (S (q + 1)) o (V q))
    (hl : isHeavy o = false) (hnD : ¬ D i) (hedge : ∀ e ∈ o.after.toList, Region.binds .any e = true → D e.on) {v' : Value} (hv : VR ρ (V q) v') (hnew : ∀ body, ¬ MakesNew P ops S q i body) :
    Inv P ops base plan S V B ρ0 σ0 w0 (fun j => D j ∨ j = i) p ρ (ac.put o.dst v') w := by
  obtain ⟨w1, w2, w3, w4⟩ := Inv.write_done hP hR hq hd I.size hv I.done I.open_
  have uniq : ∀ (q' m' : Nat), plan[q']? = some (i, m') → q' = q := by
    intro q' m' h
    rcases Nat.lt_trichotomy q' q with hh | hh | hh
    · obtain ⟨_, _, _, hu, _⟩ := hP.at_ q i m hq
      exact absurd h (hu q' m' hh)
    · exact hh
    · obtain ⟨_, _, _, hu, _⟩ := hP.at_ q' i m' h
      exact absurd hq (hu q m hh)
  have noNew : ∀ (q' i' m' : Nat) (body : Body), plan[q']? = some (i', m') → (D i' ∨ i' = i) → MakesNew P ops S q' i' body → D i' := by
    intro q' i' m' body h1 h2 h3
    rcases h2 with h2 | rfl
    · exact h2
    · have := uniq q' m' h1; subst this; exact absurd h3 (hnew body)
  exact {
    closed := fun j o' hj ho' e he hb => by
      rcases hj with hj | rfl
      · exact .inl (I.closed j o' hj ho' e he hb)
      · rw [hd.op] at ho'; cases ho'; exact .inl (hedge e he hb)
    low := fun q' i' m' h h' => .inl (I.low q' i' m' h h')
    le := I.le
    high := fun q' i' m' o' h1 h2 h3 h4 h5 => by
      rcases h5 with h5 | rfl
      · exact I.high q' i' m' o' h1 h2 h3 h4 h5
      · rw [hd.op] at h3; cases h3; rw [hl] at h4; cases h4
    sim := I.sim, ext := I.ext, size := w1, defers := by rw [w2]; exact I.defers
    done := w3, open_ := w4
    extra := fun q' i' m' body h1 h2 h3 h4 => I.extra q' i' m' body h1 h2 (noNew q' i' m' body h2 h3 h4) h4
    apart := fun q' i' m' q2 i2 m2 body body' pl pl' h1 h2 h3 h4 h5 h6 h7 h8 => I.apart q' i' m' q2 i2 m2 body body' pl pl' h1 h2 (noNew _ _ _ _ h2 h3 h4) h4 h5 h6 (noNew _ _ _ _ h6 h7 h8) h8
    blank := fun j o' ho' hj => I.blank j o' ho' fun h => hj (.inl h)
    room := I.room, next := I.next }
/-- One more operation, which has made new memory. -/
theorem Inv.made (hP : Plan ops.toList ms plan) (hR : DRun P X call ops.toList base plan S V) (I : Inv P ops base plan S V B ρ0 σ0 w0 D p ρ ac w) (hB : B ≤ w0.heap.size) (hlo : σ0.next ≤ base) {q i m : Nat} {o : Oper} (hpq : p ≤ q) (hq : plan[q]? = some (i, m)) (hd : DStep P X call ops.toList base i m (S q) (S (q + 1)) o (V q))
    (hl : isHeavy o = false) (hnD : ¬ D i) (hedge : ∀ e ∈ o.after.toList, Region.binds .any e = true → D e.on) {mk : Mk} {body : Body} (hV : V q = mk.val (base + i)) (hmk : ∀ body', MakesNew P ops S q i body' → body' = body) {v' : Value} {w' : World} (hm : MadeR ρ mk body w w' v') :
    ∃ ρ', Inv P ops base plan S V B ρ0 σ0 w0 (fun j => D j ∨ j = i) p ρ' (ac.put o.dst v') w' := by
  obtain ⟨ob, pl, m1, m2, m3, m4, m5, _⟩ := hm
  have hblank := I.blank i o hd.op hnD
  have hle := Ren.put_le (p := pl) hblank
  have hin : i < ops.size := by have := (List.getElem?_eq_some_iff.1 hd.op).1; simpa using this
  have hnx : base + i < (S p).σ.next := by have := I.next; omega
  have hsz : w'.heap.size = w.heap.size + 1 := by rw [m1.1]; simp
  obtain ⟨r1, r2⟩ := I.room q i m hpq hq
  have hren : ∀ j r, j ≠ base + i → ρ.put (base + i) pl j = some r → ρ j = some r := fun j r hj hr => by rwa [Ren.put_ne _ _ hj] at hr
  have hv : VR (ρ.put (base + i) pl) (V q) v' := by rw [hV]; exact m5 _ _ (Ren.put_self _ _ _)
  obtain ⟨w1, w2, w3, w4⟩ := Inv.write_done (ρ' := ρ.put (base + i) pl) hP hR hq hd I.size hv (fun q i m o t h1 h2 h3 h4 => (I.done q i m o t h1 h2 h3 h4).mono hle) (fun t h => (I.open_ t h).mono hle)
  have uniq : ∀ (q' m' : Nat), plan[q']? = some (i, m') → q' = q := by
    intro q' m' h
    rcases Nat.lt_trichotomy q' q with hh | hh | hh
    · obtain ⟨_, _, _, hu, _⟩ := hP.at_ q i m hq
      exact absurd h (hu q' m' hh)
    · exact hh
    · obtain ⟨_, _, _, hu, _⟩ := hP.at_ q' i m' h
      exact absurd hq (hu q m hh)
  have image : ∀ j blk r, (S p).σ.get j = some blk → ρ.put (base + i) pl j = some r → ρ j = some r ∧ r.b < w.heap.size := by
    intro j blk r hj hr
    have hne : j ≠ base + i := fun e => by rw [e, r1] at hj; cases hj
    have := hren j r hne hr
    exact ⟨this, (I.sim.dom j r this).2⟩
  refine ⟨ρ.put (base + i) pl, {
    closed := fun j o' hj ho' e he hb => by
      rcases hj with hj | rfl
      · exact .inl (I.closed j o' hj ho' e he hb)
      · rw [hd.op] at ho'; cases ho'; exact .inl (hedge e he hb)
    low := fun q' i' m' h h' => .inl (I.low q' i' m' h h')
    le := I.le
    high := fun q' i' m' o' h1 h2 h3 h4 h5 => by
      rcases h5 with h5 | rfl
      · exact I.high q' i' m' o' h1 h2 h3 h4 h5
      · rw [hd.op] at h3; cases h3; rw [hl] at h4; cases h4
    sim := I.sim.later hle (by omega) (fun b hb => World.more_old m1 hb) fun j r hr => by
      by_cases e : j = base + i
      · subst e; rw [Ren.put_self] at hr; cases hr; exact .inr ⟨hnx, by omega, r1⟩
      · exact .inl (hren j r e hr)
    ext := ?_
    size := w1, defers := by rw [w2]; exact I.defers.mono hle
    done := w3, open_ := w4
    extra := fun q' i' m' body' h1 h2 h3 h4 => ?_
    apart := fun q' i' m' q2 i2 m2 body' body2 pl' pl2 h1 h2 h3 h4 h5 h6 h7 h8 hne hr hr2 => ?_
    blank := fun j o' ho' hj => by
      have hne : j ≠ i := fun e => hj (.inr e)
      rw [Ren.put_ne _ _ (by omega)]
      exact I.blank j o' ho' fun h => hj (.inl h)
    room := I.room, next := I.next }⟩
  · have E := I.ext
    exact { ren := Ren.le_trans E.ren hle, size := by have := E.size; omega, os := m1.2.1.trans E.os, output := m1.2.2.1.trans E.output, tape := m1.2.2.2.trans E.tape, next := E.next
            keep := fun b hb hn => (World.more_old m1 (Nat.lt_of_lt_of_le hb E.size)).trans (E.keep b hb hn)
            shutAll := fun j blk r hj hr => E.shutAll j blk r hj (image j blk r hj hr).1
            shutOpen := fun j blk r hj hs hr => E.shutOpen j blk r hj hs (image j blk r hj hr).1
            lives := E.lives, chains := E.chains
            news := fun j r hr => by
              by_cases e : j = base + i
              · exact .inr (by omega)
              · exact E.news j r (hren j r e hr) }
  · rcases h3 with h3 | rfl
    · obtain ⟨pl', e1, e2, e3, e4, e5, e6⟩ := I.extra q' i' m' body' h1 h2 h3 h4
      have hb := (I.sim.dom _ _ e1).2
      refine ⟨pl', hle _ _ e1, (e2.mono hle).same (World.more_old m1 hb), e3.same (World.more_old m1 hb), e4, e5, fun j blk r hj hr => e6 j blk r hj (image j blk r hj hr).1⟩
    · have := uniq q' m' h2; subst this
      have := hmk body' h4; subst this
      refine ⟨pl, Ren.put_self _ _ _, m3.mono hle, m4, ?_, ?_, fun j blk r hj hr => ?_⟩
      · have := I.hB hB; omega
      · have := I.ext.size; omega
      · have := (image j blk r hj hr).2; omega
  · by_cases e1 : i' = i
    · subst e1
      rw [Ren.put_self] at hr; cases hr
      have h2b : ρ (base + i2) = some pl2 := hren _ _ (by omega) hr2
      have := (I.sim.dom _ _ h2b).2; omega
    · by_cases e2 : i2 = i
      · subst e2
        rw [Ren.put_self] at hr2; cases hr2
        have h2b : ρ (base + i') = some pl' := hren _ _ (by omega) hr
        have := (I.sim.dom _ _ h2b).2; omega
      · exact I.apart q' i' m' q2 i2 m2 body' body2 pl' pl2 h1 h2 (h3.resolve_right e1) h4 h5 h6 (h7.resolve_right e2) h8 hne (hren _ _ (by omega) hr) (hren _ _ (by omega) hr2)
/-- One more operation, a heavy one: all places ahead of it have been passed. -/
theorem Inv.heavy (hP : Plan ops.toList ms plan) (hR : DRun P X call ops.toList base plan S V) {q i m : Nat} (I : Inv P ops base plan S V B ρ0 σ0 w0 D q ρ ac w) {o : Oper} (hq : plan[q]? = some (i, m)) (hd : DStep P X call ops.toList base i m (S q) (S (q + 1)) o (V q))
    (hnD : ¬ D i) (hedge : ∀ e ∈ o.after.toList, Region.binds .any e = true → D e.on) (hheavy : isHeavy o = true) {ρ' : Ren} {v' : Value} {w' : World} (hv : VR ρ' (V q) v') (hS : Sim B ρ' (S (q + 1)).σ w') (hE : Ext ρ (S q).σ w ρ' (S (q + 1)).σ w') :
    Inv P ops base plan S V B ρ0 σ0 w0 (fun j => D j ∨ j = i) (q + 1) ρ' (ac.put o.dst v') w' := by
  obtain ⟨w1, w2, w3, w4⟩ := Inv.write_done (ρ' := ρ') hP hR hq hd I.size hv (fun q i m o t h1 h2 h3 h4 => (I.done q i m o t h1 h2 h3 h4).mono hE.ren) (fun t h => (I.open_ t h).mono hE.ren)
  have hlt : q < plan.length := (List.getElem?_eq_some_iff.1 hq).1
  have uniq : ∀ (q' m' : Nat), plan[q']? = some (i, m') → q' = q := by
    intro q' m' h
    rcases Nat.lt_trichotomy q' q with hh | hh | hh
    · obtain ⟨_, _, _, hu, _⟩ := hP.at_ q i m hq
      exact absurd h (hu q' m' hh)
    · exact hh
    · obtain ⟨_, _, _, hu, _⟩ := hP.at_ q' i m' h
      exact absurd hq (hu q m hh)
  have noNew : ∀ (q' i' m' : Nat), q + 1 ≤ q' → plan[q']? = some (i', m') → (D i' ∨ i' = i) → D i' := by
    intro q' i' m' h0 h1 h2
    rcases h2 with h2 | rfl
    · exact h2
    · have := uniq q' m' h1; omega
  have stays : ∀ (q' i' m' : Nat) (body : Body), q + 1 ≤ q' → plan[q']? = some (i', m') → D i' → MakesNew P ops S q' i' body → ∃ pl, ρ (base + i') = some pl ∧ ρ' (base + i') = some pl ∧ BR ρ' pl w' body ∧ Free pl w' ∧ B ≤ pl.b ∧ w0.heap.size ≤ pl.b ∧ ∀ j blk r, (S (q + 1)).σ.get j = some blk → ρ' j = some r → r.b ≠ pl.b := by
    intro q' i' m' body h1 h2 h3 h4
    obtain ⟨pl, e1, e2, e3, e4, e5, e6⟩ := I.extra q' i' m' body (by omega) h2 h3 h4
    have hlt2 := (I.sim.dom _ _ e1).2
    have hkeep := hE.keep pl.b hlt2 fun j blk r hj _ hr he => e6 j blk r hj hr he
    refine ⟨pl, e1, hE.ren _ _ e1, (e2.mono hE.ren).same hkeep, e3.same hkeep, e4, e5, fun j blk r hj hr he => ?_⟩
    rcases hE.shutAll j blk r hj hr with h | ⟨j', blk', r', hj', hr', he'⟩
    · omega
    · exact e6 j' blk' r' hj' hr' (he'.trans he)
  exact {
    closed := fun j o' hj ho' e he hb => by
      rcases hj with hj | rfl
      · exact .inl (I.closed j o' hj ho' e he hb)
      · rw [hd.op] at ho'; cases ho'; exact .inl (hedge e he hb)
    low := fun q' i' m' h h' => by
      by_cases e : q' = q
      · subst e; rw [hq] at h'; cases h'; exact .inr rfl
      · exact .inl (I.low q' i' m' (by omega) h')
    le := hlt
    high := fun q' i' m' o' h1 h2 h3 h4 h5 => I.high q' i' m' o' (by omega) h2 h3 h4 (noNew q' i' m' h1 h2 h5)
    sim := hS, ext := I.ext.trans hE, size := w1, defers := by rw [w2]; exact I.defers.mono hE.ren
    done := w3, open_ := w4
    extra := fun q' i' m' body h1 h2 h3 h4 => by
      obtain ⟨pl, _, e⟩ := stays q' i' m' body h1 h2 (noNew q' i' m' h1 h2 h3) h4
      exact ⟨pl, e⟩
    apart := fun q' i' m' q2 i2 m2 body body' pl pl' h1 h2 h3 h4 h5 h6 h7 h8 hne hr hr2 => by
      obtain ⟨pa, a1, a2, _⟩ := stays q' i' m' body h1 h2 (noNew q' i' m' h1 h2 h3) h4
      obtain ⟨pb, b1, b2, _⟩ := stays q2 i2 m2 body' h5 h6 (noNew q2 i2 m2 h5 h6 h7) h8
      rw [a2] at hr; cases hr
      rw [b2] at hr2; cases hr2
      exact I.apart q' i' m' q2 i2 m2 body body' _ _ (by omega) h2 (noNew q' i' m' h1 h2 h3) h4 (by omega) h6 (noNew q2 i2 m2 h5 h6 h7) h8 hne a1 b1
    blank := fun j o' ho' hj => by
      have hn := I.blank j o' ho' fun h => hj (.inl h)
      have hin : j < ops.size := by have := (List.getElem?_eq_some_iff.1 ho').1; simpa using this
      cases hg : ρ' (base + j) with
      | none => rfl
      | some r =>
        rcases hE.news _ _ hg with h | h
        · rw [hn] at h; cases h
        · have := I.next; omega
    room := fun q' i' m' h1 h2 => by
      obtain ⟨r1, r2⟩ := I.room q' i' m' (by omega) h2
      obtain ⟨o', ho', _⟩ := hP.at_ q' i' m' h2
      have hin : i' < ops.size := by have := (List.getElem?_eq_some_iff.1 ho').1; simpa using this
      have hnx := I.next
      constructor
      · cases hg : (S (q + 1)).σ.get (base + i') with
        | none => rfl
        | some blk =>
          rcases hE.lives _ _ hg with h | ⟨b, hb⟩
          · omega
          · rw [r1] at hb; cases hb
      · intro j bj hj hm'
        rcases hE.chains j bj _ hj hm' with h | ⟨j', bj', hj', h | h⟩
        · omega
        · rw [← h, r1] at hj'; cases hj'
        · exact r2 j' bj' hj' h
    next := by have := I.next; have := hE.next; omega }
end
end Go.AM
