import Derived.Test.YtmgpnomphfeoiaaGreatDoorAmFastOps
set_option linter.all false
namespace Go.AM
noncomputable section
/-- What a command goes on with behind an operation of a region that draws. -/
inductive NextD (X : Prims) (c : Caller) (k : Value → Cmd) (σ : St) (r : CRes) (i : Nat) : Bool → Out → Prop where
  | val {v} (h : k v c σ = some r) : NextD X c k σ r i false (.val v)
  | new {mk b} (hn : (σ.get i).isSome = false) (h : k (mk.val i) c { σ with heap := σ.heap.put i (some { body := b, chain := [], shut := false }) } = some r) : NextD X c k σ r i false (.new mk b)
  | upd {v σ'} (h : k v c σ' = some r) : NextD X c k σ r i true (.upd v σ')
  | ext {f args v} (hx : X.ext f args = some v) (h : k v c σ = some r) : NextD X c k σ r i true (.enter f args)
  | call {f args v σ'} (hx : X.ext f args = none) (hc : c f args σ = some (.ret v σ')) (h : k v c σ' = some r) : NextD X c k σ r i true (.enter f args)
def SameAt (d : DOp) (l : List St) : Out → Prop
  | .val v => ∀ s ∈ l, ∃ u, d.outAt s = some (.val u) ∧ valueEq u v = true
  | _ => True
theorem sameV_spec {f : St → Option Value} {v : Value} : ∀ {l : List St}, sameV f v l = true → ∀ s ∈ l, ∃ u, f s = some u ∧ valueEq u v = true
  | [], _, s, hs => by cases hs
  | s0 :: l, h, s, hs => by
    simp only [sameV, Bool.and_eq_true] at h
    rcases List.mem_cons.1 hs with rfl | hs
    · have h1 := h.1
      split at h1
      · rename_i u hu; exact ⟨u, hu, h1⟩
      · cases h1
    · exact sameV_spec h.2 s hs
theorem sameO_spec {f : St → Option Out} {v : Value} : ∀ {l : List St}, sameO f v l = true → ∀ s ∈ l, ∃ u, f s = some (.val u) ∧ valueEq u v = true
  | [], _, s, hs => by cases hs
  | s0 :: l, h, s, hs => by
    simp only [sameO, Bool.and_eq_true] at h
    rcases List.mem_cons.1 hs with rfl | hs
    · have h1 := h.1
      split at h1
      · rename_i u hu; exact ⟨u, hu, h1⟩
      · cases h1
    · exact sameO_spec h.2 s hs
theorem cCallR_next {X : Prims} {c : Caller} {k : Value → Cmd} {σ : St} {r : CRes} {i : Nat} {f : FuncId} {args : List Value} (h : cCallR X f args k c σ = some r) : NextD X c k σ r i true (.enter f args) := by
  unfold cCallR at h
  cases hx : X.ext f args with
  | some v => rw [hx] at h; exact .ext hx h
  | none =>
    rw [hx] at h
    simp only at h
    cases hc : c f args σ with
    | none => rw [hc] at h; cases h
    | some q =>
      rw [hc] at h
      cases q with
      | ret v σ' => exact .call hx hc h
      | panic v σ' => cases h
theorem cDoD_next {X : Prims} {c : Caller} {k : Value → Cmd} {σ : St} {r : CRes} {hv : Bool} {i : Nat} {l : List St} {d : DOp} (h : cDoD X hv i l d k c σ = some r) : ∃ out, d.outAt σ = some out ∧ SameAt d l out ∧ NextD X c k σ r i hv out := by
  cases d with
  | now v =>
    cases hv
    · simp only [cDoD] at h
      cases l with
      | nil => exact ⟨_, rfl, fun s hs => (by cases hs), .val h⟩
      | cons s l => cases h
    · cases h
  | val x =>
    cases hv
    · simp only [cDoD] at h
      cases l with
      | nil =>
        simp only [cVal] at h
        cases x with
        | none => cases h
        | some v => exact ⟨_, rfl, fun s hs => (by cases hs), .val h⟩
      | cons s l => cases h
    · cases h
  | rd f =>
    cases hv
    · simp only [cDoD, cRdS] at h
      cases hf : f σ with
      | none => rw [hf] at h; cases h
      | some v =>
        rw [hf] at h
        simp only [Bool.cond_eq_ite] at h
        split at h
        · rename_i hs
          refine ⟨.val v, by simp only [DOp.outAt, hf, vOut], fun s hm => ?_, .val h⟩
          obtain ⟨u, hu, he⟩ := sameV_spec hs s hm
          exact ⟨u, by simp only [DOp.outAt, hu, vOut], he⟩
        · cases h
    · cases h
  | upd f =>
    cases hv
    · cases h
    · simp only [cDoD, cUpd] at h
      cases hf : f σ with
      | none => rw [hf] at h; cases h
      | some v => rw [hf] at h; exact ⟨.upd undefV v, by simp only [DOp.outAt, hf, uOut], trivial, .upd h⟩
  | wri f =>
    cases hv
    · cases h
    · simp only [cDoD, cWri] at h
      cases hf : f σ with
      | none => rw [hf] at h; cases h
      | some v => obtain ⟨v, σ'⟩ := v; rw [hf] at h; exact ⟨.upd v σ', by simp only [DOp.outAt, hf, wOut], trivial, .upd h⟩
  | new x =>
    cases hv
    · simp only [cDoD, cNewAt] at h
      cases x with
      | none => cases h
      | some v =>
        obtain ⟨mk, b⟩ := v
        simp only [Bool.cond_eq_ite] at h
        split at h
        · cases h
        · rename_i hn; exact ⟨_, rfl, trivial, .new (by simpa using hn) h⟩
    · cases h
  | call f args =>
    cases hv
    · cases h
    · exact ⟨_, rfl, trivial, cCallR_next h⟩
  | enter g args =>
    cases hv
    · cases h
    · simp only [cDoD, cEnterR] at h
      split at h
      · exact ⟨_, rfl, trivial, cCallR_next h⟩
      · cases h
  | out f =>
    cases hv
    · simp only [cDoD, cOutAt] at h
      cases hf : f σ with
      | none => rw [hf] at h; cases h
      | some v =>
        rw [hf] at h
        cases v <;> first
          | (cases h; done)
          | skip
        · simp only [Bool.cond_eq_ite] at h
          split at h
          · rename_i hs
            exact ⟨.val _, by simp only [DOp.outAt, hf], fun s hm => sameO_spec hs s hm, .val h⟩
          · cases h
        · simp only [Bool.cond_eq_ite] at h
          split at h
          · cases h
          · rename_i hn; exact ⟨.new _ _, by simp only [DOp.outAt, hf], trivial, .new (by simpa using hn) h⟩
    · cases h
  | panic v => cases hv <;> cases h
  | bad => cases hv <;> cases h
theorem histL_mem {m : Nat} : ∀ {hist : List (Nat × St)} {h : Nat} {s : St}, (h, s) ∈ hist → Nat.testBit m h = false → s ∈ histL m hist
  | (h0, s0) :: r, h, s, hm, hb => by
    simp only [histL, Bool.cond_eq_ite]
    rcases List.mem_cons.1 hm with e | hm
    · cases e; simp [hb]
    · have := histL_mem hm hb
      split
      · exact this
      · exact List.mem_cons_of_mem _ this
theorem seenSame_of {P : Program} {ev : Ev} {o : Oper} {m : Nat} {v : Value} : ∀ {hist : List (Nat × St)}, (∀ h s, (h, s) ∈ hist → Nat.testBit m h = false → ∃ u, opV P ev s o = some (.val u) ∧ valueEq u v = true) → seenSame P ev o m v hist = true
  | [], _ => rfl
  | (h0, s0) :: r, H => by
    simp only [seenSame, Bool.and_eq_true]
    refine ⟨?_, seenSame_of fun h s hm => H h s (List.mem_cons_of_mem _ hm)⟩
    cases hb : Nat.testBit m h0 with
    | true => rfl
    | false =>
      obtain ⟨u, hu, he⟩ := H h0 s0 (List.mem_cons_self ..) hb
      simp only [cond_false, hu, he]
theorem mem_dstsL {all : List Oper} {o : Oper} (h : o ∈ all) {d : Nat} (hd : o.dst = some d) : d ∈ dstsL all := by
  induction all with
  | nil => cases h
  | cons p ps ih =>
    simp only [dstsL]
    rcases List.mem_cons.1 h with rfl | h
    · rw [hd]; exact List.mem_cons_self ..
    · cases p.dst with
      | none => exact ih h
      | some q => exact List.mem_cons_of_mem _ (ih h)
theorem dNote_eq {mkd : Bool} {k : Nat} {hist : List (Nat × St)} {f : List (Nat × St) → Cmd} {c : Caller} {σ : St} : dNote mkd k hist f c σ = f (bif mkd then noteF (σ.get k) k hist else hist) c σ := by
  unfold dNote
  cases mkd <;> cases hist <;> rfl
theorem dPlan_spec {P : Program} {X : Prims} {size : Nat} {c : Caller} (hc : CallSim P X c) {all : List Oper} {base : Nat} {r : CRes} : ∀ {plan : List (Nat × Nat)} {e : Env} {b : St} {hist : List (Nat × St)} {k : Env → Cmd} {σ : St} {a : Act},
    dPlan P X size all base plan e b hist k c σ = some r → EnvOK size e a →
    ∃ s', (Evn fun n => runD P X (call P X n) all base plan { a, σ, b, hist } = some s') ∧ ∃ e', EnvOK size e' s'.a ∧ Agree (dstsL all) e e' ∧ k e' c s'.σ = some r
  | [], e, b, hist, k, σ, a, h, hE => ⟨_, .of fun n => rfl, e, hE, Agree.refl _ _, h⟩
  | (i, m) :: rest, e, b, hist, k, σ, a, h, hE => by
    simp only [dPlan] at h
    cases hi : all[i]? with
    | none => rw [hi] at h; cases h
    | some o =>
      rw [hi] at h
      simp only at h
      have hmem : o ∈ all := List.mem_of_getElem? hi
      cases hd : dstOk size o with
      | false => rw [hd] at h; cases h
      | true =>
        rw [hd] at h
        cases hg : guardD e all o with
        | none => rw [hg] at h; cases h
        | some g =>
          rw [hg] at h
          have hw := guardD_spec hE hg
          -- behind the operation
          have step : ∀ {v : Value} {σ' : St}, (match isHeavy o with | true => cGet fun s => dPlan P X size all base rest (e.setD o v) s ((i, b) :: hist) k | false => dNote (isMake o) (base + i) hist fun hl => dPlan P X size all base rest (e.setD o v) b hl k) c σ' = some r →
              ∃ s1 s', ({ a, σ, b, hist } : DS).on base i o σ' v = some s1 ∧ (Evn fun n => runD P X (call P X n) all base rest s1 = some s') ∧ ∃ e', EnvOK size e' s'.a ∧ Agree (dstsL all) e e' ∧ k e' c s'.σ = some r := by
            intro v σ' h'
            obtain ⟨a1, hp, hE1⟩ := hE.put hd v
            have ag : ∀ {e'}, Agree (dstsL all) (e.setD o v) e' → Agree (dstsL all) e e' := by
              intro e' hA
              refine ((Agree.setD (all := all) (o := o) (v := v)).trans hA).le ?_
              intro t ht
              rcases List.mem_append.1 ht with ht | ht
              · cases hd' : o.dst with
                | none => rw [hd'] at ht; cases ht
                | some d => rw [hd'] at ht; rw [List.mem_singleton.1 ht]; exact mem_dstsL hmem hd'
              · exact ht
            cases hh : isHeavy o with
            | true =>
              rw [hh] at h'
              simp only [cGet] at h'
              obtain ⟨s', hr, e', hE', hA, hk⟩ := dPlan_spec hc h' hE1
              exact ⟨_, s', by simp only [DS.on, hp, hh, cond_true], hr, e', hE', ag hA, hk⟩
            | false =>
              rw [hh] at h'
              simp only [dNote_eq] at h'
              obtain ⟨s', hr, e', hE', hA, hk⟩ := dPlan_spec hc h' hE1
              exact ⟨_, s', by simp only [DS.on, hp, hh, cond_false], hr, e', hE', ag hA, hk⟩
          have not : wantedV all a o = some false → (match isHeavy o with | true => cGet fun s => dPlan P X size all base rest (e.setD o undefV) s ((i, b) :: hist) k | false => dNote (isMake o) (base + i) hist fun hl => dPlan P X size all base rest (e.setD o undefV) b hl k) c σ = some r →
              ∃ s', (Evn fun n => runD P X (call P X n) all base ((i, m) :: rest) { a, σ, b, hist } = some s') ∧ ∃ e', EnvOK size e' s'.a ∧ Agree (dstsL all) e e' ∧ k e' c s'.σ = some r := by
            intro hw h
            obtain ⟨s1, s', hs1, hr, hR⟩ := step h
            exact ⟨s', hr.mono fun n hn => by simp only [runD, stepD, hi, hw, hs1, hn], hR⟩
          have did : wantedV all a o = some true → cDoD X (isHeavy o) (base + i) (readL o m hist) (resolve P e.eval o.op)
                (fun v => match isHeavy o with | true => cGet fun s => dPlan P X size all base rest (e.setD o v) s ((i, b) :: hist) k | false => dNote (isMake o) (base + i) hist fun hl => dPlan P X size all base rest (e.setD o v) b hl k) c σ = some r →
              ∃ s', (Evn fun n => runD P X (call P X n) all base ((i, m) :: rest) { a, σ, b, hist } = some s') ∧ ∃ e', EnvOK size e' s'.a ∧ Agree (dstsL all) e e' ∧ k e' c s'.σ = some r := by
            intro hw h
            obtain ⟨out, hout, hsame, hN⟩ := cDoD_next h
            have hop := resolve_out hE.eval (EnvOK.fn a) hout
            generalize hhv : isHeavy o = hv at hN
            have hread : ∀ v, out = .val v → readOk P a.eval o m v hist = true := by
              rintro v rfl
              unfold readOk
              cases hr : isRead o with
              | false => rfl
              | true =>
                rw [cond_true]
                refine seenSame_of fun h s hm hb => ?_
                obtain ⟨u, hu, he⟩ := hsame s (by simp only [readL, hr]; exact histL_mem hm hb)
                exact ⟨u, resolve_out hE.eval (EnvOK.fn a) hu, he⟩
            cases hN with
            | val h =>
              obtain ⟨s1, s', hs1, hr, hR⟩ := step (by rw [hhv]; exact h)
              have hro := hread _ rfl
              exact ⟨s', hr.mono fun n hn => by simp only [runD, stepD, hi, hw, hop, hhv, hro, Bool.not_false, Bool.and_self, cond_true, hs1, hn], hR⟩
            | new hn h =>
              obtain ⟨s1, s', hs1, hr, hR⟩ := step (by rw [hhv]; exact h)
              exact ⟨s', hr.mono fun n hn' => by simp only [runD, stepD, hi, hw, hop, hhv, hn, Bool.or_self, cond_false, hs1, hn'], hR⟩
            | upd h =>
              obtain ⟨s1, s', hs1, hr, hR⟩ := step (by rw [hhv]; exact h)
              exact ⟨s', hr.mono fun n hn => by simp only [runD, stepD, hi, hw, hop, hhv, cond_true, hs1, hn], hR⟩
            | ext hx h =>
              obtain ⟨s1, s', hs1, hr, hR⟩ := step (by rw [hhv]; exact h)
              exact ⟨s', hr.mono fun n hn => by simp only [runD, stepD, hi, hw, hop, hhv, cond_true, hx, hs1, hn], hR⟩
            | call hx hcc h =>
              obtain ⟨s1, s', hs1, hr, hR⟩ := step (by rw [hhv]; exact h)
              exact ⟨s', (hr.and (hc _ _ _ _ hcc)).mono fun n hn => by simp only [runD, stepD, hi, hw, hop, hhv, cond_true, hx, hn.2, hs1, hn.1], hR⟩
          cases g with
          | none => exact did hw h
          | some g =>
            obtain ⟨g, want⟩ := g
            simp only [cGuard] at h
            cases g with
            | bool b =>
              simp only [Bool.cond_eq_ite] at h hw
              split at h
              · rename_i hb; exact did (by rw [hw, hb]) h
              · rename_i hb; exact not (by rw [hw]; simpa using hb) h
            | _ => exact not hw h
theorem dDrawn_spec {P : Program} {X : Prims} {size : Nat} {c : Caller} (hc : CallSim P X c) {all : List Oper} {r : CRes} {e : Env} {k : Env → Cmd} {σ : St} {a : Act}
    (h : dDrawn P X size all e k c σ = some r) (hE : EnvOK size e a) :
    ∃ a' σ', (Evn fun n => drawn P X (call P X n) all a σ = some (.normal, a', σ')) ∧ ∃ e', EnvOK size e' a' ∧ Agree (dstsL all) e e' ∧ k e' c σ' = some r := by
  unfold dDrawn at h
  cases hp : planOf all with
  | none => rw [hp] at h; cases h
  | some plan =>
    rw [hp] at h
    simp only [cBase, cGet] at h
    obtain ⟨s', hr, hR⟩ := dPlan_spec hc h hE
    exact ⟨s'.a, s'.σ, hr.mono fun n hn => by simp only [drawn, hp, hn], hR⟩
end
end Go.AM
