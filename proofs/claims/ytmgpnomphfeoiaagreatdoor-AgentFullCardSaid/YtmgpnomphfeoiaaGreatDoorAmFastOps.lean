import Derived.Test.YtmgpnomphfeoiaaGreatDoorAmFastOK
set_option linter.all false
namespace Go.AM
noncomputable section
/-! ### what is known of the variables -/
structure EnvOK (size : Nat) (e : Env) (a : Act) : Prop where
  size : a.size = size
  defers : a.defers = []
  look : ∀ t v, e.look t = some v → a.look t = v
/-- Alike but for some variables. -/
def Agree (ts : List Nat) (e e' : Env) : Prop := ∀ t, t ∉ ts → e'.look t = e.look t
theorem Agree.refl (ts : List Nat) (e : Env) : Agree ts e e := fun _ _ => rfl
theorem Agree.trans {ts us : List Nat} {e e' e'' : Env} (h : Agree ts e e') (g : Agree us e' e'') : Agree (ts ++ us) e e'' := fun t ht => by
  simp only [List.mem_append, not_or] at ht
  rw [g t ht.2, h t ht.1]
theorem Agree.le {ts us : List Nat} {e e' : Env} (h : Agree ts e e') (hs : ∀ t ∈ ts, t ∈ us) : Agree us e e' := fun t ht => h t fun h' => ht (hs t h')
theorem Env.look_set (e : Env) (t : Nat) (v : Value) (u : Nat) : (e.set t v).look u = if u = t then some v else e.look u := by
  simp only [Env.look, Env.set, Tr.get_put]
  by_cases h : u = t
  · rw [if_pos h, if_pos h]
  · rw [if_neg h, if_neg h]
theorem EnvOK.eval {size : Nat} {e : Env} {a : Act} (h : EnvOK size e a) : ∀ x v, e.eval x = some v → a.eval x = some v := by
  intro x v hv
  cases x with
  | tmp t => exact congrArg some (h.look t v hv)
  | const c =>
    simp only [Env.eval] at hv
    rw [← hv]
    cases c with
    | pointer p => cases p <;> rfl
    | slice b l c => cases b <;> rfl
    | map p => cases p <;> rfl
    | _ => rfl
  | global g => cases hv
  | func f => exact hv
theorem EnvOK.fn (a : Act) (f : FuncId) : a.eval (.func f) = some (.func (.func f) #[] #[]) := rfl
theorem lookF_put {a a' : Act} {t : Nat} {v : Value} (h : a.put (some t) v = some a') (u : Nat) : a'.look u = if u = t then v else a.look u := by
  simp only [Act.put, Bool.cond_eq_ite] at h
  split at h
  · cases h
    simp only [Act.look, Tr.get_put]
    by_cases e : u = t
    · rw [if_pos e, if_pos e]
    · rw [if_neg e, if_neg e]
  · cases h
theorem EnvOK.put {size : Nat} {e : Env} {a : Act} (h : EnvOK size e a) {o : Oper} (hd : dstOk size o = true) (v : Value) : ∃ a', a.put o.dst v = some a' ∧ EnvOK size (e.setD o v) a' := by
  unfold dstOk at hd
  unfold Env.setD
  cases hdst : o.dst with
  | none => exact ⟨a, rfl, h⟩
  | some d =>
    rw [hdst] at hd
    simp only at hd
    have hp : a.put (some d) v = some { a with tmps := a.tmps.put d (some v) } := by
      simp only [Act.put, h.size, hd, cond_true]
    refine ⟨_, hp, h.size, h.defers, ?_⟩
    intro t u ht
    rw [lookF_put hp]
    rw [Env.look_set] at ht
    by_cases e' : t = d
    · rw [if_pos e'] at ht ⊢; cases ht; rfl
    · rw [if_neg e'] at ht ⊢; exact h.look t u ht
theorem Agree.setD {all : List Oper} {e : Env} {o : Oper} {v : Value} : Agree (match o.dst with | some d => [d] | none => []) e (e.setD o v) := by
  intro t ht
  unfold Env.setD
  cases hdst : o.dst with
  | none => rfl
  | some d =>
    rw [hdst] at ht
    simp only [List.mem_singleton] at ht
    simp only [Env.look_set, if_neg ht]
theorem guardD_spec {size : Nat} {e : Env} {a : Act} (h : EnvOK size e a) {all : List Oper} {o : Oper} {g : Option (Value × Bool)} (hg : guardD e all o = some g) :
    wantedV all a o = some (match g with | none => true | some (.bool b, w) => b == w | some (_, _) => false) := by
  unfold guardD at hg
  unfold wantedV
  cases hgu : o.guard with
  | none => rw [hgu] at hg; cases hg; rfl
  | some jw =>
    obtain ⟨j, w⟩ := jw
    rw [hgu] at hg
    simp only at hg ⊢
    cases hj : all[j]? with
    | none => rw [hj] at hg; cases hg
    | some p =>
      rw [hj] at hg
      simp only at hg ⊢
      cases hd : p.dst with
      | none => rw [hd] at hg; cases hg
      | some d =>
        rw [hd] at hg
        simp only at hg ⊢
        cases hl : e.look d with
        | none => rw [hl] at hg; cases hg
        | some v =>
          rw [hl] at hg
          cases hg
          rw [h.look d v hl]
          cases v <;> rfl
/-- The calls of the fast machine are calls of the slow one. -/
def CallSim (P : Program) (X : Prims) (c : Caller) : Prop := ∀ f args σ r, c f args σ = some r → Evn fun n => call P X n f args σ = some r
/-- What a command goes on with behind an operation. -/
inductive Next (P : Program) (X : Prims) (c : Caller) (k : Value → Cmd) (σ : St) (r : CRes) : Out → Prop where
  | val {v} (h : k v c σ = some r) : Next P X c k σ r (.val v)
  | new {mk b} (h : k (mk.val σ.next) c (σ.push b mk.tag) = some r) : Next P X c k σ r (.new mk b)
  | upd {v σ'} (h : k v c σ' = some r) : Next P X c k σ r (.upd v σ')
  | ext {f args v} (hx : X.ext f args = some v) (h : k v c σ = some r) : Next P X c k σ r (.enter f args)
  | call {f args v σ'} (hx : X.ext f args = none) (hc : c f args σ = some (.ret v σ')) (h : k v c σ' = some r) : Next P X c k σ r (.enter f args)
  | callP {f args v σ'} (hx : X.ext f args = none) (hc : c f args σ = some (.panic v σ')) (h : r = .panic v σ') : Next P X c k σ r (.enter f args)
  | panic {v} (h : r = .panic v σ) : Next P X c k σ r (.panic v)
theorem cCall_next {P : Program} {X : Prims} {c : Caller} {k : Value → Cmd} {σ : St} {r : CRes} {f : FuncId} {args : List Value} (h : cCall X f args k c σ = some r) : Next P X c k σ r (.enter f args) := by
  unfold cCall at h
  cases hx : X.ext f args with
  | some v => rw [hx] at h; exact .ext hx h
  | none =>
    rw [hx] at h
    simp only at h
    cases hc : c f args σ with
    | none => rw [hc] at h; cases h
    | some q =>
      rw [hc] at h
      cases q with
      | ret v σ' => exact .call hx hc h
      | panic v σ' => cases h; exact .callP hx hc rfl
theorem cDo_next {P : Program} {X : Prims} {c : Caller} {k : Value → Cmd} {σ : St} {r : CRes} {d : DOp} (h : cDo X d k c σ = some r) : ∃ out, d.outAt σ = some out ∧ Next P X c k σ r out := by
  cases d with
  | now v => exact ⟨_, rfl, .val h⟩
  | val x =>
    simp only [cDo, cVal] at h
    cases x with
    | none => cases h
    | some v => exact ⟨_, rfl, .val h⟩
  | rd f =>
    simp only [cDo, cRd] at h
    cases hf : f σ with
    | none => rw [hf] at h; cases h
    | some v => rw [hf] at h; exact ⟨.val v, by simp only [DOp.outAt, hf, vOut], .val h⟩
  | upd f =>
    simp only [cDo, cUpd] at h
    cases hf : f σ with
    | none => rw [hf] at h; cases h
    | some v => rw [hf] at h; exact ⟨.upd undefV v, by simp only [DOp.outAt, hf, uOut], .upd h⟩
  | wri f =>
    simp only [cDo, cWri] at h
    cases hf : f σ with
    | none => rw [hf] at h; cases h
    | some v => obtain ⟨v, σ'⟩ := v; rw [hf] at h; exact ⟨.upd v σ', by simp only [DOp.outAt, hf, wOut], .upd h⟩
  | new x =>
    simp only [cDo, cNew] at h
    cases x with
    | none => cases h
    | some v => obtain ⟨mk, b⟩ := v; exact ⟨_, rfl, .new h⟩
  | call f args => exact ⟨_, rfl, cCall_next h⟩
  | enter g args =>
    simp only [cDo, cEnter] at h
    split at h
    · exact ⟨_, rfl, cCall_next h⟩
    · cases h
  | out f =>
    simp only [cDo, cOut] at h
    cases hf : f σ with
    | none => rw [hf] at h; cases h
    | some v =>
      rw [hf] at h
      cases v <;> first
        | (cases h; done)
        | exact ⟨_, by simp only [DOp.outAt, hf], .val h⟩
        | exact ⟨_, by simp only [DOp.outAt, hf], .new h⟩
        | exact ⟨_, by simp only [DOp.outAt, hf], .upd h⟩
  | panic v =>
    simp only [cDo, cPanic] at h
    split at h
    · cases h; exact ⟨_, rfl, .panic rfl⟩
    · cases h
  | bad => cases h
theorem dOps_spec {P : Program} {X : Prims} {size : Nat} {c : Caller} (hc : CallSim P X c) {all : List Oper} {r : CRes} : ∀ {l : List Oper} {e : Env} {k : Env → Cmd} {σ : St} {a : Act}, dOps P X size all l e k c σ = some r → EnvOK size e a →
    ∃ ex a' σ', (Evn fun n => opsF P X (call P X n) all l a σ = some (ex, a', σ')) ∧
      ((ex = .normal ∧ ∃ e', EnvOK size e' a' ∧ Agree (dstsL l) e e' ∧ k e' c σ' = some r) ∨ (∃ v, ex = .panic v ∧ r = .panic v σ' ∧ a'.defers = []))
  | [], e, k, σ, a, h, hE => ⟨.normal, a, σ, .of fun n => rfl, .inl ⟨rfl, e, hE, Agree.refl _ _, h⟩⟩
  | o :: rest, e, k, σ, a, h, hE => by
    have step : ∀ {v : Value} {σ' : St}, dOps P X size all rest (e.setD o v) k c σ' = some r → dstOk size o = true →
        ∃ a1 ex a' σ'', a.put o.dst v = some a1 ∧ (Evn fun n => opsF P X (call P X n) all rest a1 σ' = some (ex, a', σ'')) ∧
          ((ex = .normal ∧ ∃ e', EnvOK size e' a' ∧ Agree (dstsL (o :: rest)) e e' ∧ k e' c σ'' = some r) ∨ (∃ v, ex = .panic v ∧ r = .panic v σ'' ∧ a'.defers = [])) := by
      intro v σ' h' hd
      obtain ⟨a1, hp, hE1⟩ := hE.put hd v
      obtain ⟨ex, a', σ'', hr, hR⟩ := dOps_spec hc h' hE1
      refine ⟨a1, ex, a', σ'', hp, hr, ?_⟩
      rcases hR with ⟨rfl, e', hE', hA, hk⟩ | hR
      · refine .inl ⟨rfl, e', hE', ?_, hk⟩
        refine ((Agree.setD (all := all) (o := o) (v := v)).trans hA).le ?_
        intro t ht
        simp only [dstsL]
        cases hd' : o.dst with
        | none => rw [hd'] at ht; simpa using ht
        | some d => rw [hd'] at ht; simpa using ht
      · exact .inr hR
    simp only [dOps] at h
    cases hd : dstOk size o with
    | false => rw [hd] at h; cases h
    | true =>
      rw [hd] at h
      cases hg : guardD e all o with
      | none => rw [hg] at h; cases h
      | some g =>
        rw [hg] at h
        have hw := guardD_spec hE hg
        -- the operation itself
        have did : wantedV all a o = some true → cDo X (resolve P e.eval o.op) (fun v => dOps P X size all rest (e.setD o v) k) c σ = some r →
            ∃ ex a' σ', (Evn fun n => opsF P X (call P X n) all (o :: rest) a σ = some (ex, a', σ')) ∧
              ((ex = .normal ∧ ∃ e', EnvOK size e' a' ∧ Agree (dstsL (o :: rest)) e e' ∧ k e' c σ' = some r) ∨ (∃ v, ex = .panic v ∧ r = .panic v σ' ∧ a'.defers = [])) := by
          intro hw h
          obtain ⟨out, hout, hN⟩ := cDo_next (P := P) h
          have hop := resolve_out hE.eval (EnvOK.fn a) hout
          cases hN with
          | val h =>
            obtain ⟨a1, ex, a', σ'', hp, hr, hR⟩ := step h hd
            exact ⟨ex, a', σ'', hr.mono fun n hn => by simp only [opsF, hw, hop, put1, hp, hn], hR⟩
          | new h =>
            obtain ⟨a1, ex, a', σ'', hp, hr, hR⟩ := step h hd
            exact ⟨ex, a', σ'', hr.mono fun n hn => by simp only [opsF, hw, hop, put1, hp, hn], hR⟩
          | upd h =>
            obtain ⟨a1, ex, a', σ'', hp, hr, hR⟩ := step h hd
            exact ⟨ex, a', σ'', hr.mono fun n hn => by simp only [opsF, hw, hop, put1, hp, hn], hR⟩
          | ext hx h =>
            obtain ⟨a1, ex, a', σ'', hp, hr, hR⟩ := step h hd
            exact ⟨ex, a', σ'', hr.mono fun n hn => by simp only [opsF, hw, hop, hx, put1, hp, hn], hR⟩
          | call hx hcc h =>
            obtain ⟨a1, ex, a', σ'', hp, hr, hR⟩ := step h hd
            exact ⟨ex, a', σ'', (hr.and (hc _ _ _ _ hcc)).mono fun n hn => by simp only [opsF, hw, hop, hx, hn.2, put1, hp, hn.1], hR⟩
          | callP hx hcc h =>
            rename_i f args v σ'
            exact ⟨.panic v, a, σ', (hc _ _ _ _ hcc).mono fun n hn => by simp only [opsF, hw, hop, hx, hn], .inr ⟨v, rfl, h, hE.defers⟩⟩
          | panic h =>
            rename_i v
            exact ⟨.panic v, a, σ, .of fun n => by simp only [opsF, hw, hop], .inr ⟨v, rfl, h, hE.defers⟩⟩
        have not : wantedV all a o = some false → dOps P X size all rest (e.setD o undefV) k c σ = some r →
            ∃ ex a' σ', (Evn fun n => opsF P X (call P X n) all (o :: rest) a σ = some (ex, a', σ')) ∧
              ((ex = .normal ∧ ∃ e', EnvOK size e' a' ∧ Agree (dstsL (o :: rest)) e e' ∧ k e' c σ' = some r) ∨ (∃ v, ex = .panic v ∧ r = .panic v σ' ∧ a'.defers = [])) := by
          intro hw h
          obtain ⟨a1, ex, a', σ'', hp, hr, hR⟩ := step h hd
          exact ⟨ex, a', σ'', hr.mono fun n hn => by simp only [opsF, hw, put1, hp, hn], hR⟩
        cases g with
        | none => exact did hw h
        | some g =>
          obtain ⟨g, want⟩ := g
          simp only [cGuard] at h
          cases g with
          | bool b =>
            simp only [Bool.cond_eq_ite] at h hw
            split at h
            · rename_i hb; exact did (by rw [hw, hb]) h
            · rename_i hb; exact not (by rw [hw]; simpa using hb) h
          | _ => exact not hw h
end
end Go.AM
