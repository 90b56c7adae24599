import Derived.Test.YtmgpnomphfeoiaaGreatDoorAmOp
import Derived.LoopN
set_option linter.all false
namespace Go.AM
noncomputable section
/-! ### frames -/
def DRs (ρ : Ren) (l l' : List Deferred) : Prop := l.length = l'.length ∧ ∀ (k : Nat) (x y : Deferred), l[k]? = some x → l'[k]? = some y → DR ρ x y
theorem DR.mono {ρ ρ' : Ren} (hr : ρ.le ρ') {d d' : Deferred} (h : DR ρ d d') : DR ρ' d d' := by
  obtain ⟨fn, c, c', a, a', h1, h2, h3, h4⟩ := h
  exact ⟨fn, c, c', a, a', h1, h2, h3.mono hr, h4.mono hr⟩
theorem DRs.mono {ρ ρ' : Ren} (hr : ρ.le ρ') {l l' : List Deferred} (h : DRs ρ l l') : DRs ρ' l l' := ⟨h.1, fun k x y hx hy => (h.2 k x y hx hy).mono hr⟩
theorem DRs.cons {ρ : Ren} {d d' : Deferred} {l l' : List Deferred} (h : DR ρ d d') (hs : DRs ρ l l') : DRs ρ (d :: l) (d' :: l') := by
  refine ⟨by simp [hs.1], fun k x y hx hy => ?_⟩
  cases k with
  | zero => simp at hx hy; subst hx; subst hy; exact h
  | succ k => exact hs.2 k x y (by simpa using hx) (by simpa using hy)
structure AR (ρ : Ren) (a : AM.Act) (ac : Go.Act) : Prop where
  size : a.size = ac.tmps.size
  look : ∀ t, VR ρ (a.look t) (ac.tmps.getD t Go.undef)
  defers : DRs ρ a.defers ac.defers
theorem AR.mono {ρ ρ' : Ren} (hr : ρ.le ρ') {a : AM.Act} {ac : Go.Act} (h : AR ρ a ac) : AR ρ' a ac := ⟨h.size, fun t => (h.look t).mono hr, h.defers.mono hr⟩
theorem eval_VR {ρ : Ren} {a : AM.Act} {ac : Go.Act} {x : Operand} (hl : ∀ t, x = .tmp t → VR ρ (a.look t) (ac.tmps.getD t Go.undef)) {v : Value} (h : a.eval x = some v) : VR ρ v (ac.eval x) := by
  cases x with
  | tmp t => simp only [AM.Act.eval, Option.some.injEq] at h; subst h; exact hl t rfl
  | func f => simp only [AM.Act.eval, Option.some.injEq] at h; subst h; exact VR.func' (VRs.nil ρ) (VRs.nil ρ)
  | global g => cases h
  | const c =>
    show VR ρ v c
    cases c with
    | slice a' l c =>
      cases a' with
      | some _ => cases h
      | none =>
        simp only [AM.Act.eval, Bool.cond_eq_ite, Bool.and_eq_true, Nat.beq_eq] at h
        split at h
        · rename_i hh; cases h; obtain ⟨rfl, rfl⟩ := hh; exact .nilSlice rfl rfl
        · cases h
    | pointer p => cases p <;> simp [AM.Act.eval] at h; subst h; exact .nilPtr
    | map p => cases p <;> simp [AM.Act.eval] at h; subst h; exact .nilMap
    | bool b => simp [AM.Act.eval] at h; subst h; exact .bool _
    | int k n => simp [AM.Act.eval] at h; subst h; exact .int _ _
    | string s => simp [AM.Act.eval] at h; subst h; exact .string _
    | nilFunc => simp [AM.Act.eval] at h; subst h; exact .nilFunc
    | nilIface => simp [AM.Act.eval] at h; subst h; exact .nilIface
    | _ => simp [AM.Act.eval] at h
theorem AR.eval {ρ : Ren} {a : AM.Act} {ac : Go.Act} (h : AR ρ a ac) (x : Operand) (v : Value) (he : a.eval x = some v) : VR ρ v (ac.eval x) := eval_VR (fun t _ => h.look t) he
theorem look_put (a : AM.Act) (t : Nat) (x : Value) (s : Nat) : ({ a with tmps := a.tmps.put t (some x) } : AM.Act).look s = if s = t then x else a.look s := by
  simp only [AM.Act.look, Tr.get_put]
  by_cases e : s = t
  · rw [if_pos e, if_pos e]
  · rw [if_neg e, if_neg e]
theorem AR.put {ρ : Ren} {a a' : AM.Act} {ac : Go.Act} (h : AR ρ a ac) {d : Option Nat} {v v' : Value} (hp : a.put d v = some a') (hv : VR ρ v v') : AR ρ a' (ac.put d v') := by
  cases d with
  | none => simp [AM.Act.put] at hp; subst hp; exact h
  | some t =>
    simp only [AM.Act.put, Bool.cond_eq_ite, Nat.blt_eq] at hp
    split at hp
    · rename_i ht
      cases hp
      have ht' : t < ac.tmps.size := h.size ▸ ht
      refine ⟨by simp [Go.Act.put]; exact h.size, fun s => ?_, h.defers⟩
      rw [look_put]
      by_cases e : s = t
      · subst e; rw [if_pos rfl]
        simp only [Go.Act.put]
        rw [Array.getD_eq_getD_getElem?, Array.getElem?_setIfInBounds_self_of_lt ht']; exact hv
      · rw [if_neg e]
        simp only [Go.Act.put]
        rw [Array.getD_eq_getD_getElem?, Array.getElem?_setIfInBounds_ne (fun h => e h.symm), ← Array.getD_eq_getD_getElem?]
        exact h.look s
    · cases hp
theorem put_defers {a a' : AM.Act} {d : Option Nat} {v : Value} (hp : a.put d v = some a') : a'.defers = a.defers ∧ a'.size = a.size := by
  cases d with
  | none => simp [AM.Act.put] at hp; subst hp; exact ⟨rfl, rfl⟩
  | some t =>
    simp only [AM.Act.put, Bool.cond_eq_ite] at hp
    split at hp
    · cases hp; exact ⟨rfl, rfl⟩
    · cases hp
theorem wanted_eq {ρ : Ren} {a : AM.Act} {ac : Go.Act} {ops : Array Oper} {o : Oper} {b : Bool} (hl : ∀ j want g d, o.guard = some (j, want) → ops[j]? = some g → g.dst = some d → VR ρ (a.look d) (ac.tmps.getD d Go.undef))
    (h : wantedV ops.toList a o = some b) : Region.wanted o (yielded ops ac.tmps) = b := by
  unfold wantedV at h
  unfold Region.wanted
  cases hg : o.guard with
  | none => rw [hg] at h; cases h; rfl
  | some jw =>
    obtain ⟨j, want⟩ := jw
    rw [hg] at h
    simp only at h
    unfold yielded
    cases ho : ops[j]? with
    | none =>
      have : ops.toList[j]? = none := by simpa using ho
      rw [this] at h; cases h; simp [ho]
    | some g =>
      have ho' : ops.toList[j]? = some g := by simpa using ho
      rw [ho'] at h
      simp only at h
      cases hd : g.dst with
      | none => rw [hd] at h; cases h; simp [ho, hd]
      | some d =>
        rw [hd] at h
        simp only at h
        have hv := hl j want g d hg ho hd
        simp only [ho, Option.bind_some, hd]
        rw [Array.getD_eq_getD_getElem?] at hv
        cases ht : ac.tmps[d]? with
        | none =>
          rw [ht] at hv
          generalize a.look d = x at h hv
          simp only [Option.getD_none] at hv
          have hx : ∃ c, x = .tuple c := by unfold Go.undef at hv; cases hv; exact ⟨_, rfl⟩
          obtain ⟨c, rfl⟩ := hx
          cases h; rfl
        | some y =>
          rw [ht] at hv
          simp only [Option.getD_some] at hv
          generalize a.look d = x at h hv
          cases hv <;> simp at h <;> subst h <;> first | rfl | simp
/-! ### calls -/
def CPost (B : Nat) (ρ : Ren) (σ : St) (w : World) : CRes → Ending → World → Prop
  | .ret v σ', .returned v', w' => ∃ ρ', VR ρ' v v' ∧ Sim B ρ' σ' w' ∧ Ext ρ σ w ρ' σ' w'
  | .panic v σ', .panicked chain, w' => ∃ ρ' v', chain = [{ v := v', recovered := false }] ∧ VR ρ' v v' ∧ Sim B ρ' σ' w' ∧ Ext ρ σ w ρ' σ' w'
  | _, _, _ => False
def CallOK (P : Program) (B : Nat) (call : Caller) : Prop := ∀ f args σ r, call f args σ = some r → ∀ ρ w (args' : Array Value), Sim B ρ σ w → B ≤ w.heap.size → VRs ρ args args'.toList →
  (callFunc f args').run P w = .ok (.enter f args') w ∧ Calls P f args' w (CPost B ρ σ w r)
/-- Contracts that come from elsewhere. -/
structure PrimsOK (P : Program) (B : Nat) (X : Prims) : Prop where
  mixed : P.follows .mixedOrders = true
  named : ∀ (f : Nat) (fn : Func), P.funcs[f]? = some fn → fn.body.isSome = true → (fn.name == "runtime.NumGoroutine") = false
  ext : ∀ f args v, X.ext f args = some v → ∀ ρ w (args' : Array Value), VRs ρ args args'.toList → ∃ v', (callFunc f args').run P w = .ok (.value v') w ∧ VR ρ v v'
  find : ∀ f args σ v σ', X.find f args σ = some (some (v, σ')) → ∀ ρ w (args' : Array Value), Sim B ρ σ w → B ≤ w.heap.size → VRs ρ args args'.toList →
    (callFunc f args').run P w = .ok (.enter f args') w ∧ Calls P f args' w (CPost B ρ σ w (.ret v σ'))
  run : ∀ call, CallOK P B call → ∀ args σ r, runCall X call args σ = some r → ∀ ρ w (args' : Array Value), Sim B ρ σ w → B ≤ w.heap.size → VRs ρ args args'.toList →
    (callFunc X.run args').run P w = .ok (.enter X.run args') w ∧ Calls P X.run args' w (CPost B ρ σ w r)
/-- What is owed at an end. -/
def Owes (B : Nat) (ρ : Ren) (σ : St) (w : World) (Q : Go.Exit → Go.Act → World → Prop) : AM.Exit → AM.Act → St → Prop
  | .normal, a', σ' => ∀ ρ' w' ac', Sim B ρ' σ' w' → Ext ρ σ w ρ' σ' w' → AR ρ' a' ac' → Q .normal ac' w'
  | .ret, a', σ' => ∀ ρ' w' ac', Sim B ρ' σ' w' → Ext ρ σ w ρ' σ' w' → AR ρ' a' ac' → Q .ret ac' w'
  | .exit id, a', σ' => ∀ ρ' w' ac', Sim B ρ' σ' w' → Ext ρ σ w ρ' σ' w' → AR ρ' a' ac' → Q (.exit id) ac' w'
  | .panic v, a', σ' => ∀ ρ' w' ac' v', Sim B ρ' σ' w' → Ext ρ σ w ρ' σ' w' → VR ρ' v v' → DRs ρ' a'.defers ac'.defers → Q (.panic [{ v := v', recovered := false }]) ac' w'
theorem Owes.later {B : Nat} {ρ ρ1 : Ren} {σ σ1 : St} {w w1 : World} {Q : Go.Exit → Go.Act → World → Prop} {e : AM.Exit} {a' : AM.Act} {σ' : St} (h : Owes B ρ σ w Q e a' σ') (hx : Ext ρ σ w ρ1 σ1 w1) : Owes B ρ1 σ1 w1 Q e a' σ' := by
  cases e with
  | normal => exact fun ρ' w' ac' h1 h2 h3 => h ρ' w' ac' h1 (hx.trans h2) h3
  | ret => exact fun ρ' w' ac' h1 h2 h3 => h ρ' w' ac' h1 (hx.trans h2) h3
  | exit id => exact fun ρ' w' ac' h1 h2 h3 => h ρ' w' ac' h1 (hx.trans h2) h3
  | panic v => exact fun ρ' w' ac' v' h1 h2 h3 h4 => h ρ' w' ac' v' h1 (hx.trans h2) h3 h4
section
variable {P : Program} {B : Nat} {X : Prims}
theorem put1_some {a : AM.Act} {σ : St} {d : Option Nat} {v : Value} {k : AM.Act → St → Res} {r : AM.Exit × AM.Act × St} (h : put1 a σ d v k = some r) : ∃ a', a.put d v = some a' ∧ k a' σ = some r := by
  unfold put1 at h
  cases hp : a.put d v with
  | none => rw [hp] at h; cases h
  | some a' => rw [hp] at h; exact ⟨a', rfl, h⟩
theorem MadeR.push {ρ : Ren} {σ : St} {w w' : World} {mk : Mk} {body : Body} {v' : Value} (h : MadeR ρ mk body w w' v') (hS : Sim B ρ σ w) (hB : B ≤ w.heap.size) :
    ∃ ρ', VR ρ' (mk.val σ.next) v' ∧ Sim B ρ' (σ.push body mk.tag) w' ∧ Ext ρ σ w ρ' (σ.push body mk.tag) w' := by
  obtain ⟨o, p, h1, h2, h3, h4, h5, h6⟩ := h
  have hle := Ren.put_le (p := p) (hS.fresh (Nat.le_refl σ.next)).1
  obtain ⟨k1, k2⟩ := hS.push hB h1 h2 (h3.mono hle) h4 h6
  exact ⟨_, h5 _ _ (Ren.put_self _ _ _), k1, k2⟩
set_option maxHeartbeats 1000000 in
theorem opsF_sound (G : PrimsOK P B X) {call : Caller} (hc : CallOK P B call) {ops : Array Oper} {Q : Go.Exit → Go.Act → World → Prop} {e : AM.Exit} {af : AM.Act} {σf : St} : ∀ (l : List Oper) (k : Nat) (a : AM.Act) (σ : St), ops.toList.drop k = l → k + l.length = ops.size →
    opsF P X call ops.toList l a σ = some (e, af, σf) → ∀ ρ w ac, Sim B ρ σ w → B ≤ w.heap.size → AR ρ a ac → Owes B ρ σ w Q e af σf → wpOps P ops Q (List.range' k l.length) ac w
  | [], k, a, σ, hl, hk, h, ρ, w, ac, hS, hB, hA, hq => by
    simp [opsF] at h
    obtain ⟨rfl, rfl, rfl⟩ := h
    exact hq ρ w ac hS (Ext.refl _ _ _) hA
  | o :: rest, k, a, σ, hl, hk, h, ρ, w, ac, hS, hB, hA, hq => by
    have ho : ops[k]? = some o := by
      have : ops.toList[k]? = some o := by
        have := congrArg (fun l => l[0]?) hl
        simpa using this
      simpa using this
    have hl' : ops.toList.drop (k + 1) = rest := by
      have := congrArg List.tail hl
      simpa [List.tail_drop] using this
    have hk' : k + 1 + rest.length = ops.size := by simp at hk; omega
    rw [List.length_cons, List.range'_succ]
    simp only [wpOps, ho]
    simp only [opsF] at h
    cases hw : wantedV ops.toList a o with
    | none => rw [hw] at h; cases h
    | some b =>
      rw [hw] at h
      have hwant := wanted_eq (fun j want g d _ _ _ => hA.look d) hw
      cases b with
      | false =>
        rw [hwant]
        simp only [Bool.false_eq_true, if_false]
        obtain ⟨a', hp, h⟩ := put1_some h
        exact opsF_sound G hc rest (k + 1) a' σ hl' hk' h ρ w _ hS hB (hA.put hp (VR.undef ρ)) hq
      | true =>
        rw [hwant]
        simp only [if_true]
        left
        simp only at h
        cases hop : opV P a.eval σ o with
        | none => rw [hop] at h; cases h
        | some out =>
          rw [hop] at h
          have hd := opV_sound (B := B) (evc := ac.eval) hS.local (fun _ => ⟨hS, hB⟩) (fun x _ v hv => hA.eval x v hv) hop
          unfold Oper.wp
          generalize (execOp ac.eval o).run P w = r at hd
          cases out with
          | val v =>
            obtain ⟨v', rfl, hv⟩ := hd
            obtain ⟨a', hp, h⟩ := put1_some h
            exact opsF_sound G hc rest (k + 1) a' σ hl' hk' h ρ w _ hS hB (hA.put hp hv) hq
          | new mk body =>
            obtain ⟨v', w', rfl, hm⟩ := hd
            obtain ⟨a', hp, h⟩ := put1_some h
            obtain ⟨ρ', k1, k2, k3⟩ := hm.push hS hB
            exact opsF_sound G hc rest (k + 1) a' _ hl' hk' h ρ' w' _ k2 (Nat.le_trans hB k3.size) ((hA.mono k3.ren).put hp k1) (hq.later k3)
          | upd v σ' =>
            obtain ⟨n, ρ', w', v', rfl, hn, k1, k2, k3⟩ := hd
            obtain ⟨a', hp, h⟩ := put1_some h
            have fin := opsF_sound G hc rest (k + 1) a' _ hl' hk' h ρ' w' _ k2 (Nat.le_trans hB k3.size) ((hA.mono k3.ren).put hp k1) (hq.later k3)
            rcases hn with rfl | ⟨rfl, rfl⟩ <;> exact fin
          | enter f args =>
            obtain ⟨args', rfl, hv⟩ := hd
            simp only at h
            cases hx : X.ext f args with
            | some v =>
              rw [hx] at h
              obtain ⟨v', hr, hv'⟩ := G.ext f args v hx ρ w args' hv
              rw [hr]
              obtain ⟨a', hp, h⟩ := put1_some h
              exact opsF_sound G hc rest (k + 1) a' σ hl' hk' h ρ w _ hS hB (hA.put hp hv') hq
            | none =>
              rw [hx] at h
              simp only at h
              cases hcl : call f args σ with
              | none => rw [hcl] at h; cases h
              | some r =>
                rw [hcl] at h
                obtain ⟨hr, hcalls⟩ := hc f args σ r hcl ρ w args' hS hB hv
                rw [hr]
                refine Calls.mono hcalls fun en w' hpost => ?_
                cases r with
                | ret v σ' =>
                  cases en with
                  | returned v' =>
                    obtain ⟨ρ', k1, k2, k3⟩ := hpost
                    obtain ⟨a', hp, h⟩ := put1_some h
                    exact opsF_sound G hc rest (k + 1) a' _ hl' hk' h ρ' w' _ k2 (Nat.le_trans hB k3.size) ((hA.mono k3.ren).put hp k1) (hq.later k3)
                  | panicked c => exact hpost.elim
                  | outgrown => exact hpost.elim
                | panic v σ' =>
                  simp only [Option.some.injEq, Prod.mk.injEq] at h
                  obtain ⟨rfl, rfl, rfl⟩ := h
                  cases en with
                  | returned v' => exact hpost.elim
                  | panicked c =>
                    obtain ⟨ρ', v', rfl, k1, k2, k3⟩ := hpost
                    exact hq ρ' w' ac v' k2 k3 k1 (hA.defers.mono k3.ren)
                  | outgrown => exact hpost.elim
          | defer d =>
            obtain ⟨d', rfl, hdr⟩ := hd
            obtain ⟨a', hp, h⟩ := put1_some h
            have hA' : AR ρ { a with defers := d :: a.defers } { ac with defers := d' :: ac.defers } := ⟨hA.size, hA.look, DRs.cons hdr hA.defers⟩
            exact opsF_sound G hc rest (k + 1) a' σ hl' hk' h ρ w _ hS hB (hA'.put hp (VR.undef ρ)) hq
          | recover => cases h
          | panic v =>
            obtain ⟨v', rfl, hv⟩ := hd
            simp only [Option.some.injEq, Prod.mk.injEq] at h
            obtain ⟨rfl, rfl, rfl⟩ := h
            exact hq ρ w ac v' hS (Ext.refl _ _ _) hv hA.defers
end
end
end Go.AM
