import Derived.Test.YtmgpnomphfeoiaaGreatDoorAmDrawn3
set_option linter.all false
namespace Go.AM
noncomputable section
section
variable {P : Program} {X : Prims} {call : Caller} {ops : Array Oper} {base : Nat} {ms : List Nat} {plan : List (Nat × Nat)} {S : Nat → DS} {V : Nat → Value} {B : Nat}
variable {ρ0 : Ren} {σ0 : St} {w0 : World}
def Listed (l : Array Bool) (i : Nat) : Prop := l[i]? = some true
theorem mem_ready {l : Array Bool} {i : Nat} (h : i ∈ Region.ready .any ops l) (hs : l.size = ops.size) : ∃ o, ops[i]? = some o ∧ ¬ Listed l i ∧ ∀ e ∈ o.after.toList, Region.binds .any e = true → Listed l e.on := by
  unfold Region.ready at h
  rw [List.mem_filter, List.mem_range] at h
  obtain ⟨h1, h2⟩ := h
  have ho : ops[i]? = some ops[i] := Array.getElem?_eq_getElem h1
  rw [ho] at h2
  simp only [Bool.and_eq_true, Bool.not_eq_eq_eq_not, Bool.not_true, Option.map_some, Option.getD_some] at h2
  obtain ⟨h2, h3⟩ := h2
  refine ⟨ops[i], ho, fun hl => ?_, fun e he hb => ?_⟩
  · unfold Listed at hl; rw [Array.getD_eq_getD_getElem?, hl] at h2; cases h2
  · rw [Array.all_eq_true'] at h3
    have := h3 e (Array.mem_toList_iff.1 he)
    rw [hb] at this
    simp only [Bool.not_true, Bool.false_or] at this
    unfold Listed
    rw [Array.getD_eq_getD_getElem?] at this
    cases hx : l[e.on]? with
    | none => rw [hx] at this; cases this
    | some b => rw [hx] at this; simp at this; rw [this]
theorem ready_of {l : Array Bool} {i : Nat} {o : Oper} (ho : ops[i]? = some o) (hs : l.size = ops.size) (hn : ¬ Listed l i) (he : ∀ e ∈ o.after.toList, Region.binds .any e = true → Listed l e.on) : i ∈ Region.ready .any ops l := by
  unfold Region.ready
  have hi : i < ops.size := (Array.getElem?_eq_some_iff.1 ho).1
  rw [List.mem_filter, List.mem_range]
  refine ⟨hi, ?_⟩
  rw [ho]
  simp only [Bool.and_eq_true, Bool.not_eq_eq_eq_not, Bool.not_true, Option.map_some, Option.getD_some]
  constructor
  · rw [Array.getD_eq_getD_getElem?, Array.getElem?_eq_getElem (by omega), Option.getD_some]
    cases hb : l[i]'(by omega) with
    | false => rfl
    | true => exact absurd (by unfold Listed; rw [Array.getElem?_eq_getElem (by omega), hb]) hn
  · rw [Array.all_eq_true']
    intro e hm
    cases hb : Region.binds .any e with
    | false => rfl
    | true =>
      have := he e (Array.mem_toList_iff.2 hm) hb
      unfold Listed at this
      rw [Array.getD_eq_getD_getElem?, this]; rfl
theorem all_listed (hM : Masks ops.toList ms) {l : Array Bool} (hs : l.size = ops.size) (h : Region.ready .any ops l = []) : ∀ i, i < ops.size → Listed l i := by
  intro i
  induction i using Nat.strongRecOn with
  | _ i ih =>
    intro hi
    apply Classical.byContradiction
    intro hn
    have ho : ops[i]? = some ops[i] := Array.getElem?_eq_getElem hi
    have := ready_of (l := l) ho hs hn fun e he hb => by
      have := hM.edge i ops[i] (by simp) e he hb
      exact ih e.on this (by omega)
    rw [h] at this; simp at this
theorem listed_set {l : Array Bool} {i : Nat} (hi : i < l.size) : (fun j => Listed l j ∨ j = i) = Listed (l.setIfInBounds i true) := by
  funext j
  apply propext
  unfold Listed
  by_cases e : j = i
  · subst e; rw [Array.getElem?_setIfInBounds_self_of_lt hi]; simp
  · rw [Array.getElem?_setIfInBounds_ne (fun h => e h.symm)]; simp [e]
/-- How many have not been listed. -/
def leftOf : List Bool → Nat
  | [] => 0
  | b :: l => (if b then 0 else 1) + leftOf l
theorem leftOf_set : ∀ (l : List Bool) (i : Nat), l[i]? = some false → leftOf (l.set i true) + 1 = leftOf l
  | [], _, h => by simp at h
  | b :: l, 0, h => by simp at h; subst h; simp [leftOf]; omega
  | b :: l, i + 1, h => by
    have := leftOf_set l i (by simpa using h)
    simp only [List.set_cons_succ, leftOf]; omega
theorem leftOf_zero : ∀ (l : List Bool), leftOf l = 0 → ∀ (i : Nat) (b : Bool), l[i]? = some b → b = true
  | [], _, i, b, h => by simp at h
  | c :: l, h, i, b, hb => by
    simp only [leftOf] at h
    cases i with
    | zero => simp at hb; subst hb; cases c <;> simp_all
    | succ i => exact leftOf_zero l (by omega) i b (by simpa using hb)
variable {Q : Go.Exit → Go.Act → World → Prop}
/-- All is done. -/
theorem Inv.finish (hP : Plan ops.toList ms plan) (hR : DRun P X call ops.toList base plan S V) (hlo : σ0.next ≤ base) {l : Array Bool} (hall : ∀ i, i < ops.size → Listed l i) {p : Nat} {ρ : Ren} {ac : Go.Act} {w : World}
    (I : Inv P ops base plan S V B ρ0 σ0 w0 (Listed l) p ρ ac w) (hq : Owes B ρ0 σ0 w0 Q .normal (S plan.length).a (S plan.length).σ) : Q .normal ac w := by
  have inb : ∀ (q i m : Nat), plan[q]? = some (i, m) → i < ops.size := by
    intro q i m h
    obtain ⟨o, ho, _⟩ := hP.at_ q i m h
    have := (List.getElem?_eq_some_iff.1 ho).1
    simpa using this
  have I2 := I.absorbAll hP hR hlo (plan.length - p) p (by have := I.le; omega) fun q i m _ _ h => hall i (inb q i m h)
  have hle := I.le
  rw [show p + (plan.length - p) = plan.length by omega] at I2
  refine hq ρ w ac I2.sim I2.ext ⟨?_, fun t => ?_, ?_⟩
  · rw [(size_at hR plan.length (Nat.le_refl _)).1]; exact I2.size
  · obtain ⟨l1, l2⟩ := look_at hP hR t plan.length (Nat.le_refl _)
    by_cases hex : ∃ (q i m : Nat) (o : Oper), plan[q]? = some (i, m) ∧ ops.toList[i]? = some o ∧ o.dst = some t
    · obtain ⟨q, i, m, o, h1, h2, h3⟩ := hex
      rw [l1 q i m o (List.getElem?_eq_some_iff.1 h1).1 h1 h2 h3]
      exact I2.done q i m o t h1 h2 h3 (hall i (inb q i m h1))
    · rw [l2 fun q i m o _ h1 h2 h3 => hex ⟨q, i, m, o, h1, h2, h3⟩]
      exact I2.open_ t fun q i m o h1 h2 h3 => absurd ⟨q, i, m, o, h1, h2, h3⟩ hex
  · rw [(size_at hR plan.length (Nat.le_refl _)).2]; exact I2.defers
set_option maxHeartbeats 1000000 in
theorem any_sound (G : PrimsOK P B X) (hc : CallOK P B call) (hP : Plan ops.toList ms plan) (hR : DRun P X call ops.toList base plan S V) (h0 : (S 0).b = (S 0).σ) (hB : B ≤ w0.heap.size) (hlo : σ0.next ≤ base)
    (hq : Owes B ρ0 σ0 w0 Q .normal (S plan.length).a (S plan.length).σ) : ∀ (fuel : Nat) (l : Array Bool) (p : Nat) (ρ : Ren) (ac : Go.Act) (w : World), l.size = ops.size → leftOf l.toList ≤ fuel → Inv P ops base plan S V B ρ0 σ0 w0 (Listed l) p ρ ac w →
    wpAny P .any ops Q fuel l ac w
  | 0, l, p, ρ, ac, w, hs, hf, I => by
    have hall : ∀ i, i < ops.size → Listed l i := by
      intro i hi
      have h1 : l[i]? = some l[i] := Array.getElem?_eq_getElem (by omega)
      have := leftOf_zero l.toList (by omega) i (l[i]'(by omega)) (by simp)
      unfold Listed; rw [h1, this]
    refine ⟨?_, I.finish hP hR hlo hall hq⟩
    cases hr : Region.ready .any ops l with
    | nil => rfl
    | cons i rest =>
      obtain ⟨o, ho, hn, _⟩ := mem_ready (i := i) (by rw [hr]; exact List.mem_cons_self) hs
      exact absurd (hall i (Array.getElem?_eq_some_iff.1 ho).1) hn
  | fuel + 1, l, p, ρ, ac, w, hs, hf, I => by
    refine ⟨fun hr => I.finish hP hR hlo (all_listed hP.masks hs hr) hq, fun i hi => ?_⟩
    obtain ⟨o, ho, hn, hedge⟩ := mem_ready hi hs
    have hil : i < ops.size := (Array.getElem?_eq_some_iff.1 ho).1
    have ho' : ops.toList[i]? = some o := by simpa using ho
    obtain ⟨q, m, hq0⟩ := hP.all_ i o ho'
    obtain ⟨o2, hd⟩ := hR.step q i m hq0
    have : o2 = o := by have := hd.op; rw [ho'] at this; cases this; rfl
    subst this
    have hql : q < plan.length := (List.getElem?_eq_some_iff.1 hq0).1
    have hpq : p ≤ q := by
      apply Classical.byContradiction
      intro h
      exact hn (I.low q i m (by omega) hq0)
    obtain ⟨_, h1, hm, hu, hb, hh⟩ := hP.at_ q i m hq0
    rw [ho'] at h1; cases h1
    have hmask : ∀ j, Nat.testBit m j = true → Listed l j := by
      intro j hj
      rw [← hm] at hj
      exact hP.masks.closed (D := Listed l) I.closed i o2 ho' hedge j hj
    have hslots := I.slots hP hR hq0 ho' hn hmask
    have hset := listed_set (l := l) (i := i) (by omega)
    have hs' : (l.setIfInBounds i true).size = ops.size := by simp [hs]
    have hf' : leftOf (l.setIfInBounds i true).toList ≤ fuel := by
      have hli : l.toList[i]? = some false := by
        have h1 : l[i]? = some (l[i]'(by omega)) := Array.getElem?_eq_getElem (by omega)
        cases hb : l[i]'(by omega) with
        | false => rw [hb] at h1; simpa using h1
        | true => exact absurd (by unfold Listed; rw [h1, hb]) hn
      have := leftOf_set l.toList i hli
      rw [Array.toList_setIfInBounds]; omega
    -- the places ahead of a heavy one have all been done
    have upTo : isHeavy o2 = true → Inv P ops base plan S V B ρ0 σ0 w0 (Listed l) q ρ ac w := by
      intro hheavy
      have := I.absorbAll hP hR hlo (q - p) p (by omega) fun q' i' m' _ h2 h3 => hmask i' (hh hheavy i' q' m' (by omega) h3)
      rwa [show p + (q - p) = q by omega] at this
    have hwant : ∀ b, wantedV ops.toList (S q).a o2 = some b → Region.wanted o2 (yielded ops ac.tmps) = b := fun b hb => wanted_eq (fun j want g d hg hgj hgd => hslots d (guard_read hg (by simpa using hgj) hgd)) hb
    unfold wpOp
    rw [ho]
    simp only
    rcases hd.kind with ⟨hw, e, hV⟩ | ⟨hw, hk⟩
    · -- it is not wanted
      rw [hwant _ hw]
      simp only [Bool.false_eq_true, if_false]
      have hv : VR ρ (V q) Go.undef := by rw [hV]; exact VR.undef ρ
      cases hheavy : isHeavy o2 with
      | false =>
        have I2 := I.same hP hR hpq hq0 hd hheavy hn hedge hv (fun body hmn => by
          obtain ⟨o3, mk, a1, a2, _⟩ := hmn
          rw [ho'] at a1; cases a1; rw [hw] at a2; cases a2)
        rw [hset] at I2
        exact any_sound G hc hP hR h0 hB hlo hq fuel _ p ρ _ w hs' hf' I2
      | true =>
        have Iq := upTo hheavy
        have I2 := Iq.heavy hP hR hq0 hd hn hedge hheavy hv (by rw [e]; exact Iq.sim) (by rw [e]; exact Ext.refl _ _ _)
        rw [hset] at I2
        exact any_sound G hc hP hR h0 hB hlo hq fuel _ (q + 1) ρ _ w hs' hf' I2
    · rw [hwant _ hw]
      simp only [if_true]
      left
      have hev : ∀ x ∈ o2.op.operands, ∀ v, (S q).a.eval x = some v → VR ρ v (ac.eval x) := fun x hx v hv => eval_VR (fun t ht => hslots t (operand_read (by rw [← ht]; exact hx))) hv
      unfold Oper.wp
      rcases hk with ⟨hl, hop, e, hss⟩ | ⟨hl, mk, body, hop, hg, e, hV⟩ | ⟨hheavy, hrun⟩
      · -- it computes, or reads
        obtain ⟨σ', hL, hop'⟩ := I.lightVal hP hR h0 hpq hq0 hd hmask hl hop hss
        have hdoes := opV_sound (B := B) hL (fun h => by rw [hl] at h; cases h) hev hop'
        obtain ⟨v', hr, hv⟩ := hdoes
        rw [hr]
        have I2 := I.same hP hR hpq hq0 hd hl hn hedge hv (fun body hmn => by
          obtain ⟨o3, mk, a1, _, a3⟩ := hmn
          rw [ho'] at a1; cases a1; rw [hop] at a3; cases a3)
        rw [hset] at I2
        exact any_sound G hc hP hR h0 hB hlo hq fuel _ p ρ _ w hs' hf' I2
      · -- it makes new memory
        have hop' := new_same hl hop { heap := .leaf, next := 0 }
        have hdoes := opV_sound (B := B) (ρ := ρ) (w := w) (σ := { heap := .leaf, next := 0 }) (fun j blk pl hj => by cases hj) (fun h => by rw [hl] at h; cases h) hev hop'
        obtain ⟨v', w', hr, hmade⟩ := hdoes
        rw [hr]
        obtain ⟨ρ', I2⟩ := I.made hP hR hB hlo hpq hq0 hd hl hn hedge hV (fun body' hmn => by
          obtain ⟨o3, mk', a1, _, a3⟩ := hmn
          rw [ho'] at a1; cases a1; rw [hop] at a3; cases a3; rfl) hmade
        rw [hset] at I2
        exact any_sound G hc hP hR h0 hB hlo hq fuel _ p ρ' _ w' hs' hf' I2
      · -- it is a heavy one
        have Iq := upTo hheavy
        have hBw := Iq.hB hB
        rcases hrun with hop | ⟨f, args, hop, hcall⟩
        · have hdoes := opV_sound (B := B) Iq.sim.local (fun _ => ⟨Iq.sim, hBw⟩) hev hop
          obtain ⟨n, ρ', w', v', hr, hn', k1, k2, k3⟩ := hdoes
          rw [hr]
          have I2 := Iq.heavy hP hR hq0 hd hn hedge hheavy k1 k2 k3
          rw [hset] at I2
          have fin := any_sound G hc hP hR h0 hB hlo hq fuel _ (q + 1) ρ' _ w' hs' hf' I2
          rcases hn' with rfl | ⟨rfl, rfl⟩ <;> exact fin
        · have hdoes := opV_sound (B := B) Iq.sim.local (fun _ => ⟨Iq.sim, hBw⟩) hev hop
          obtain ⟨args', hr, hv⟩ := hdoes
          rw [hr]
          rcases hcall with ⟨hx, e⟩ | ⟨hx, hcl⟩
          · obtain ⟨v', hr2, hv'⟩ := G.ext f args _ hx ρ w args' hv
            rw [hr2]
            have I2 := Iq.heavy hP hR hq0 hd hn hedge hheavy hv' (by rw [e]; exact Iq.sim) (by rw [e]; exact Ext.refl _ _ _)
            rw [hset] at I2
            exact any_sound G hc hP hR h0 hB hlo hq fuel _ (q + 1) ρ _ w hs' hf' I2
          · obtain ⟨hr2, hcalls⟩ := hc f args _ _ hcl ρ w args' Iq.sim hBw hv
            rw [hr2]
            refine Calls.mono hcalls fun en w' hpost => ?_
            cases en with
            | returned v' =>
              obtain ⟨ρ', k1, k2, k3⟩ := hpost
              have I2 := Iq.heavy hP hR hq0 hd hn hedge hheavy k1 k2 k3
              rw [hset] at I2
              exact any_sound G hc hP hR h0 hB hlo hq fuel _ (q + 1) ρ' _ w' hs' hf' I2
            | panicked c => exact hpost.elim
            | outgrown => exact hpost.elim
/-- A region that draws its order. -/
theorem drawn_sound (G : PrimsOK P B X) (hc : CallOK P B call) {id : Nat} {e : AM.Exit} {a af : AM.Act} {σ σf : St} (h : drawn P X call ops.toList a σ = some (e, af, σf)) {ρ : Ren} {w : World} {ac : Go.Act} (hS : Sim B ρ σ w) (hB : B ≤ w.heap.size) (hA : AR ρ a ac)
    (hq : Owes B ρ σ w Q e af σf) : (Code.region id ops true).wp P Q ac w := by
  unfold drawn at h
  cases hpl : planOf ops.toList with
  | none => rw [hpl] at h; cases h
  | some plan =>
    rw [hpl] at h
    simp only at h
    split at h
    case h_2 => cases h
    rename_i s hrun
    simp only [Option.some.injEq, Prod.mk.injEq] at h
    obtain ⟨rfl, rfl, rfl⟩ := h
    obtain ⟨ms, hP⟩ := plan_of hpl
    obtain ⟨S, V, hS0, hSl, hR⟩ := runD_spec _ _ _ hrun
    refine wp_region_any G.mixed ?_
    have hw : ({ w with drawn := w.drawn + 1 } : World).heap = w.heap := rfl
    have hnone : ∀ i, i < (Array.replicate ops.size false).size → ¬ Listed (Array.replicate ops.size false) i := by
      intro i hi h
      unfold Listed at h
      simp at hi
      simp [hi] at h
    have hnone2 : ∀ i, ¬ Listed (Array.replicate ops.size false) i := by
      intro i h
      unfold Listed at h
      by_cases hi : i < ops.size
      · simp [hi] at h
      · simp [hi] at h
    have hsim : Sim B ρ { σ with next := σ.next + ops.toList.length } { w with drawn := w.drawn + 1 } :=
      { live := fun i blk hi => let ⟨x, y, z, t⟩ := hS.live i blk hi; ⟨by show i < σ.next + _; omega, y, z, t.same rfl⟩
        dom := fun i p hp => let ⟨x, y⟩ := hS.dom i p hp; ⟨by show i < σ.next + _; omega, y⟩
        tags := hS.tags
        own := hS.own, free := hS.free, apart := hS.apart, below := hS.below
        chain := fun j bj k hj hk => by have := hS.chain j bj k hj hk; show k < σ.next + _; omega }
    have hext : Ext ρ σ w ρ { σ with next := σ.next + ops.toList.length } { w with drawn := w.drawn + 1 } :=
      { ren := Ren.le_refl _, size := Nat.le_refl _, os := rfl, output := rfl, tape := rfl, next := Nat.le_add_right _ _, keep := fun _ _ _ => rfl
        shutAll := fun i blk p h hp => .inr ⟨i, blk, p, h, hp, rfl⟩, shutOpen := fun i blk p h hs hp => .inr ⟨i, blk, p, h, hs, hp, rfl⟩
        lives := fun _ blk h => .inr ⟨blk, h⟩, chains := fun j bj _ h hk => .inr ⟨j, bj, h, .inr hk⟩, news := fun _ _ h => .inl h }
    refine any_sound (base := σ.next) (σ0 := σ) (ρ0 := ρ) (w0 := w) G hc hP hR (by rw [hS0]) hB (Nat.le_refl _) (by rw [hSl]; exact hq) ops.size _ 0 ρ ac _ (by simp) ?_ ?_
    · have : ∀ n, leftOf (List.replicate n false) = n := by
        intro n
        induction n with
        | zero => rfl
        | succ n ih => rw [List.replicate_succ, leftOf, ih]; simp; omega
      simp [this]
    · exact {
        closed := fun i o hi => absurd hi (hnone2 i)
        low := fun q i m hq => by omega
        le := Nat.zero_le _
        high := fun q i m o _ _ _ _ => hnone2 i
        sim := by rw [hS0]; exact hsim
        ext := by rw [hS0]; exact hext
        size := by rw [hS0]; exact hA.size
        defers := by rw [hS0]; exact hA.defers
        done := fun q i m o t _ _ _ hi => absurd hi (hnone2 i)
        open_ := fun t _ => by rw [hS0]; exact hA.look t
        extra := fun q i m body _ _ hi => absurd hi (hnone2 i)
        apart := fun q i m q' i' m' body body' pl pl' _ _ hi => absurd hi (hnone2 i)
        blank := fun i o _ _ => (hS.fresh (by omega)).1
        room := fun q i m _ _ => by
          rw [hS0]
          exact ⟨(hS.fresh (by omega)).2.1, (hS.fresh (by omega)).2.2⟩
        next := by rw [hS0]; simp }
end
end
end Go.AM
