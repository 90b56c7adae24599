import Derived.Test.YtmgpnomphfeoiaaGreatDoorAmDrawn4
set_option linter.all false
namespace Go.AM
noncomputable section
section
variable {P : Program} {B : Nat} {X : Prims}
def ExecOK (P : Program) (B : Nat) (X : Prims) (n : Nat) : Prop := ∀ (c : Code) (a : AM.Act) (σ : St) (e : AM.Exit) (af : AM.Act) (σf : St), exec P X n c a σ = some (e, af, σf) → ∀ (ρ : Ren) (w : World) (ac : Go.Act) (Q : Go.Exit → Go.Act → World → Prop), Sim B ρ σ w → B ≤ w.heap.size → AR ρ a ac → Owes B ρ σ w Q e af σf → c.wp P Q ac w
def LoopOK (P : Program) (B : Nat) (X : Prims) (n : Nat) : Prop := ∀ (x : Code) (a : AM.Act) (σ : St) (e : AM.Exit) (af : AM.Act) (σf : St), exec P X n (.loop x) a σ = some (e, af, σf) → ∃ k, ∀ (ρ : Ren) (w : World) (ac : Go.Act) (Q : Go.Exit → Go.Act → World → Prop), Sim B ρ σ w → B ≤ w.heap.size → AR ρ a ac → Owes B ρ σ w Q e af σf → Code.rounds P x Q k ac w
theorem run_results {ρ : Ren} {σ : St} {w : World} (hL : Local ρ σ w) {a : AM.Act} {ac : Go.Act} (hA : AR ρ a ac) : ∀ (rs : List ResultVar) (vs : List Value), resultsV P σ a rs = some vs →
    ∃ vs', (rs.mapM (fun (r : ResultVar) => match r with | .tmp t => (pure (ac.tmps.getD t Go.undef) : Sem Value) | .cell p t => do Go.loadVar t (← asAddr (ac.tmps.getD p Go.undef)))).run P w = .ok vs' w ∧ VRs ρ vs vs'
  | [], vs, h => by simp [resultsV] at h; subst h; exact ⟨[], rfl, VRs.nil ρ⟩
  | .tmp t :: rs, vs, h => by
    simp only [resultsV] at h
    cases hr : resultsV P σ a rs with
    | none => rw [hr] at h; cases h
    | some l =>
      rw [hr] at h; cases h
      obtain ⟨l', h1, h2⟩ := run_results hL hA rs l hr
      refine ⟨_ :: l', ?_, VRs.cons (hA.look t) h2⟩
      rw [List.mapM_cons]
      simp only [Sem.run_bind, Sem.run_pure, Result.andThen_ok, h1]
  | .cell p t :: rs, vs, h => by
    simp only [resultsV] at h
    split at h
    · rename_i q hq
      cases hl : loadVar P σ t q.block q.off with
      | none => rw [hl] at h; cases h
      | some v =>
        rw [hl] at h
        simp only at h
        cases hr : resultsV P σ a rs with
        | none => rw [hr] at h; cases h
        | some l =>
          rw [hr] at h; cases h
          obtain ⟨l', h1, h2⟩ := run_results hL hA rs l hr
          have hv := hA.look p
          rw [hq] at hv
          obtain ⟨pl, h3, h4, h5⟩ := hv.inv_ptr
          obtain ⟨v', h6, h7⟩ := run_loadVar (P := P) hL hl h3
          refine ⟨v' :: l', ?_, VRs.cons h7 h2⟩
          rw [List.mapM_cons]
          have ha : (asAddr (ac.tmps.getD p Go.undef)).run P w = .ok ⟨pl.b, pl.s + q.off, none⟩ w := by rw [h5]; rfl
          simp only [Sem.run_bind, ha, Sem.run_pure, Result.andThen_ok, h6, h1]
    · cases h
theorem results_ok {ρ : Ren} {σ : St} {w : World} (hL : Local ρ σ w) {a : AM.Act} {ac : Go.Act} (hA : AR ρ a ac) {fn : Func} {vs : List Value} (h : resultsV P σ a fn.results.toList = some vs) :
    ∃ v', (results fn ac.tmps).run P w = .ok v' w ∧ VR ρ (oneOrTuple vs) v' := by
  obtain ⟨vs', h1, h2⟩ := run_results (P := P) hL hA _ _ h
  refine ⟨if h : vs'.toArray.size = 1 then vs'.toArray[0] else .tuple vs'.toArray, ?_, ?_⟩
  · unfold results
    rw [Array.mapM_eq_mapM_toList]
    have h1' : (fn.results.toList.mapM (fun (r : ResultVar) => match r with | .tmp t => (pure (ac.tmps.getD t Go.undef) : Sem Value) | .cell p t => do Go.loadVar t (← asAddr (ac.tmps.getD p Go.undef)))).run P w = .ok vs' w := h1
    simp only [Sem.run_bind, Sem.run_map]
    erw [h1']
    rfl
  · cases vs with
    | nil => have := h2.inv_nil; subst this; exact VR.tuple' (VRs.nil ρ)
    | cons x vs =>
      obtain ⟨y, l, rfl, hx, hl⟩ := h2.inv_cons
      cases vs with
      | nil => have := hl.inv_nil; subst this; exact hx
      | cons x2 vs =>
        obtain ⟨y2, l2, rfl, hx2, hl2⟩ := hl.inv_cons
        have : ¬ (y :: y2 :: l2).toArray.size = 1 := by simp
        rw [dif_neg this]
        exact VR.tuple' (VRs.cons hx (VRs.cons hx2 hl2))
theorem init_AR {ρ : Ren} {args : List Value} {args' : Array Value} (h : VRs ρ args args'.toList) (n : Nat) :
    AR ρ { tmps := tmpsOf args, size := max n args.length, defers := [] } { tmps := args' ++ Array.replicate (n - args'.size) Go.undef, defers := [] } := by
  have hl : args.length = args'.size := by rw [h.1]; simp
  refine ⟨?_, fun t => ?_, ⟨rfl, fun k x y hx => by simp at hx⟩⟩
  · simp; omega
  · simp only [AM.Act.look, tmpsOf, Tr.get_ofListF, Nat.zero_le, Nat.zero_add, true_and, Nat.sub_zero]
    rw [Array.getD_eq_getD_getElem?]
    by_cases ht : t < args.length
    · rw [if_pos ht, List.getElem?_eq_getElem ht, Array.getElem?_append_left (by omega), Array.getElem?_eq_getElem (by omega)]
      simp only [Option.getD_some]
      exact h.2 t _ _ (List.getElem?_eq_getElem ht) (by rw [Array.getElem?_toList, Array.getElem?_eq_getElem (by omega)])
    · rw [if_neg ht, Array.getElem?_append_right (by omega)]
      simp only [Tr.get_leaf]
      have : ((Array.replicate (n - args'.size) Go.undef)[t - args'.size]?).getD Go.undef = Go.undef := by
        rw [Array.getElem?_replicate]; split <;> rfl
      rw [this]; exact VR.undef ρ
theorem body_sound (G : PrimsOK P B X) {n : Nat} (hE : ExecOK P B X n) {f : FuncId} {fn : Func} (hf : P.funcs[f]? = some fn) {args : List Value} {σ : St} {r : CRes} (h : bodyF P (exec P X n) fn args σ = some r) {ρ : Ren} {w : World} {args' : Array Value}
    (hS : Sim B ρ σ w) (hB : B ≤ w.heap.size) (hv : VRs ρ args args'.toList) : (callFunc f args').run P w = .ok (.enter f args') w ∧ Calls P f args' w (CPost B ρ σ w r) := by
  unfold bodyF at h
  cases hb : fn.body with
  | none => rw [hb] at h; cases h
  | some c =>
    rw [hb] at h
    simp only at h
    constructor
    · have hn := G.named f fn hf (by rw [hb]; rfl)
      have hn' : ¬ fn.name = "runtime.NumGoroutine" := by simpa using hn
      simp [callFunc, hf, hn', hb]
    · cases he : exec P X n c { tmps := tmpsOf args, size := max fn.ntmps args.length, defers := [] } σ with
      | none => rw [he] at h; cases h
      | some eas =>
        obtain ⟨e, a, σ'⟩ := eas
        rw [he] at h
        simp only at h
        cases hd : a.defers with
        | cons d ds => rw [hd] at h; cases h
        | nil =>
          rw [hd] at h
          simp only at h
          have nodef : ∀ {ρ' : Ren} {ac : Go.Act}, DRs ρ' a.defers ac.defers → ac.defers = [] := fun hd' => by
            have := hd'.1; rw [hd] at this; simp at this; exact List.eq_nil_of_length_eq_zero this.symm
          refine calls_of_wp hf hb (hE c _ σ e a σ' he ρ w _ _ hS hB (init_AR hv fn.ntmps) ?_)
          have fin : ∀ vs, resultsV P σ' a fn.results.toList = some vs → r = .ret (oneOrTuple vs) σ' → ∀ (ρ' : Ren) (w' : World) (ac' : Go.Act), Sim B ρ' σ' w' → Ext ρ σ w ρ' σ' w' → AR ρ' a ac' →
              ac'.defers = [] ∧ ∃ v, (results fn ac'.tmps).run P w' = .ok v w' ∧ CPost B ρ σ w r (.returned v) w' := by
            intro vs hvs hr ρ' w' ac' h1 h2 h3
            obtain ⟨v', g1, g2⟩ := results_ok (P := P) h1.local h3 hvs
            subst hr
            exact ⟨nodef h3.defers, v', g1, ρ', g2, h1, h2⟩
          cases e with
          | normal =>
            simp only [bodyF.retF] at h
            cases hvs : resultsV P σ' a fn.results.toList with
            | none => rw [hvs] at h; cases h
            | some vs => rw [hvs] at h; cases h; exact fun ρ' w' ac' h1 h2 h3 => fin vs hvs rfl ρ' w' ac' h1 h2 h3
          | ret =>
            simp only [bodyF.retF] at h
            cases hvs : resultsV P σ' a fn.results.toList with
            | none => rw [hvs] at h; cases h
            | some vs => rw [hvs] at h; cases h; exact fun ρ' w' ac' h1 h2 h3 => fin vs hvs rfl ρ' w' ac' h1 h2 h3
          | exit id => cases h
          | panic v =>
            simp only [Option.some.injEq] at h
            subst h
            exact fun ρ' w' ac' v' h1 h2 h3 h4 => ⟨nodef h4, ρ', v', rfl, h3, h1, h2⟩
theorem Exit.then_owes {ρ : Ren} {σ : St} {w : World} {Q : Go.Exit → Go.Act → World → Prop} {e : AM.Exit} {af : AM.Act} {σf : St} {next : Go.Act → World → Prop} (hne : e ≠ .normal) (h : Owes B ρ σ w Q e af σf) : Owes B ρ σ w (Exit.then next Q) e af σf := by
  cases e with
  | normal => exact absurd rfl hne
  | ret => exact h
  | exit id => exact h
  | panic v => exact h
theorem exec_sound (G : PrimsOK P B X) : ∀ n, ExecOK P B X n ∧ LoopOK P B X n ∧ CallOK P B (call P X n)
  | 0 => ⟨fun c a σ e af σf h => by simp [exec] at h, fun x a σ e af σf h => by simp [exec] at h, fun f args σ r h => by simp [call] at h⟩
  | n + 1 => by
    obtain ⟨hE, hL, hC⟩ := exec_sound G n
    have hLoop : LoopOK P B X (n + 1) := by
      intro x a σ e af σf h
      simp only [exec] at h
      split at h
      · rename_i a' σ' hx
        obtain ⟨k, hk⟩ := hL x a' σ' e af σf h
        refine ⟨k + 1, fun ρ w ac Q hS hB hA hq => ?_⟩
        rw [rounds_succ]
        refine hE x a σ _ _ _ hx ρ w ac _ hS hB hA fun ρ' w' ac' h1 h2 h3 => ?_
        exact hk ρ' w' ac' Q h1 (Nat.le_trans hB h2.size) h3 (hq.later h2)
      · rename_i hx
        refine ⟨1, fun ρ w ac Q hS hB hA hq => ?_⟩
        rw [rounds_succ]
        have hnn : e ≠ .normal := by
          rintro rfl
          exact hx _ _ h
        exact hE x a σ e af σf h ρ w ac _ hS hB hA (Exit.then_owes hnn hq)
    refine ⟨?_, hLoop, ?_⟩
    · intro c a σ e af σf h ρ w ac Q hS hB hA hq
      cases c with
      | skip =>
        simp only [exec, Option.some.injEq, Prod.mk.injEq] at h
        obtain ⟨rfl, rfl, rfl⟩ := h
        exact wp_skip (hq ρ w ac hS (Ext.refl _ _ _) hA)
      | region id ops draw =>
        cases draw with
        | false =>
          simp only [exec] at h
          have := opsF_sound (Q := Q) G hC (ops := ops) ops.toList 0 a σ rfl (by simp) h ρ w ac hS hB hA hq
          refine wp_region ?_
          rw [List.range_eq_range']
          simpa using this
        | true =>
          simp only [exec] at h
          exact drawn_sound G hC h hS hB hA hq
      | seq x y =>
        simp only [exec] at h
        split at h
        · rename_i a' σ' hx
          refine wp_seq (hE x a σ _ _ _ hx ρ w ac _ hS hB hA fun ρ' w' ac' h1 h2 h3 => ?_)
          exact hE y a' σ' e af σf h ρ' w' ac' Q h1 (Nat.le_trans hB h2.size) h3 (hq.later h2)
        · rename_i hx
          have hnn : e ≠ .normal := by
            rintro rfl
            exact hx _ _ h
          exact wp_seq (hE x a σ e af σf h ρ w ac _ hS hB hA (Exit.then_owes hnn hq))
      | cond x y z =>
        simp only [exec] at h
        split at h
        · rename_i hx
          have := (hA.eval x _ hx).inv_bool
          exact wp_cond_true this (hE y a σ e af σf h ρ w ac Q hS hB hA hq)
        · rename_i hx
          have := (hA.eval x _ hx).inv_bool
          exact wp_cond_false this (hE z a σ e af σf h ρ w ac Q hS hB hA hq)
        · cases h
      | block id x =>
        simp only [exec] at h
        split at h
        · rename_i j a' σ' hx
          simp only [Bool.cond_eq_ite, Nat.beq_eq] at h
          refine wp_block (hE x a σ _ _ _ hx ρ w ac _ hS hB hA fun ρ' w' ac' h1 h2 h3 => ?_)
          split at h
          · rename_i e'
            simp only [Option.some.injEq, Prod.mk.injEq] at h
            obtain ⟨rfl, rfl, rfl⟩ := h
            simp only [Exit.inBlock, e', if_true]
            exact hq ρ' w' ac' h1 h2 h3
          · rename_i e'
            simp only [Option.some.injEq, Prod.mk.injEq] at h
            obtain ⟨rfl, rfl, rfl⟩ := h
            simp only [Exit.inBlock, e', if_false]
            exact hq ρ' w' ac' h1 h2 h3
        · rename_i hx
          refine wp_block (hE x a σ e af σf h ρ w ac _ hS hB hA ?_)
          cases e with
          | exit j => exact absurd h (hx _ _ _)
          | normal => exact hq
          | ret => exact hq
          | panic v => exact hq
      | loop x =>
        obtain ⟨k, hk⟩ := hLoop x a σ e af σf h
        exact wp_loop_rounds k (hk ρ w ac Q hS hB hA hq)
      | exit id =>
        simp only [exec, Option.some.injEq, Prod.mk.injEq] at h
        obtain ⟨rfl, rfl, rfl⟩ := h
        exact wp_exit (hq ρ w ac hS (Ext.refl _ _ _) hA)
      | ret =>
        simp only [exec, Option.some.injEq, Prod.mk.injEq] at h
        obtain ⟨rfl, rfl, rfl⟩ := h
        exact wp_ret (hq ρ w ac hS (Ext.refl _ _ _) hA)
      | _ => simp [exec] at h
    · intro f args σ r h ρ w args' hS hB hv
      simp only [call] at h
      split at h
      · rename_i v σ' hx
        simp only [Option.some.injEq] at h
        subst h
        exact G.find f args σ v σ' hx ρ w args' hS hB hv
      · cases h
      · simp only [Bool.cond_eq_ite, Nat.beq_eq] at h
        split at h
        · rename_i hf
          subst hf
          exact G.run _ hC args σ r h ρ w args' hS hB hv
        · split at h
          · rename_i fn hfn
            exact body_sound G hE hfn h hS hB hv
          · cases h
/-- **WHAT THE ABSTRACT MACHINE COMES TO, THE CALL COMES TO, IN WHATEVER WORLD.** -/
theorem call_sound (G : PrimsOK P B X) {n : Nat} {f : FuncId} {args : List Value} {σ : St} {r : CRes} (h : call P X n f args σ = some r) {ρ : Ren} {w : World} {args' : Array Value} (hS : Sim B ρ σ w) (hB : B ≤ w.heap.size) (hv : VRs ρ args args'.toList) :
    Calls P f args' w (CPost B ρ σ w r) := ((exec_sound G n).2.2 f args σ r h ρ w args' hS hB hv).2
end
end
end Go.AM
