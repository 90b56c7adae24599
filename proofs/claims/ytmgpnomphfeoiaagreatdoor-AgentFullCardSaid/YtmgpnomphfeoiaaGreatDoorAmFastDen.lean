import Derived.Test.YtmgpnomphfeoiaaGreatDoorAmFastDrawn
set_option linter.all false
namespace Go.AM
noncomputable section
theorem mem_bitsF {m : Nat} : ∀ {n s t : Nat}, t ∈ bitsF m n s → Nat.testBit m t = true
  | 0, _, _, h => by cases h
  | n + 1, s, t, h => by
    simp only [bitsF, Bool.cond_eq_ite] at h
    split at h
    · rename_i hb
      rcases List.mem_cons.1 h with rfl | h
      · exact hb
      · exact mem_bitsF h
    · exact mem_bitsF h
theorem mem_maskOfL : ∀ {ts : List Nat} {t : Nat}, Nat.testBit (maskOfL ts) t = true → t ∈ ts
  | [], t, h => by simp [maskOfL] at h
  | u :: ts, t, h => by
    have h' : Nat.testBit (bitM u ||| maskOfL ts) t = true := h
    rw [Nat.testBit_or, Bool.or_eq_true] at h'
    rcases h' with h' | h'
    · have h2 : Nat.testBit (1 <<< u) t = true := h'
      rw [Nat.testBit_shiftLeft, Bool.and_eq_true, decide_eq_true_eq] at h2
      obtain ⟨h1, h2⟩ := h2
      have : t - u = 0 := by
        cases hd : t - u with
        | zero => rfl
        | succ k => rw [hd] at h2; simp [Nat.testBit_succ] at h2
      have : t = u := by omega
      subst this
      exact List.mem_cons_self ..
    · exact List.mem_cons_of_mem _ (mem_maskOfL h')
theorem ps_sub {ts : List Nat} {live n : Nat} : ∀ t ∈ joinP ts live n, t ∈ ts := by
  intro t ht
  have h := mem_bitsF ht
  have h' : Nat.testBit (maskOfL ts &&& live) t = true := h
  rw [Nat.testBit_and, Bool.and_eq_true] at h'
  exact mem_maskOfL h'.1
theorem look_forget : ∀ (ts : List Nat) (e : Env) (t : Nat), (e.forget ts).look t = if t ∈ ts then none else e.look t
  | [], e, t => by simp [Env.forget]
  | u :: ts, e, t => by
    rw [Env.forget, look_forget ts]
    by_cases h : t ∈ ts
    · simp [h]
    · rw [if_neg h]
      simp only [Env.look, Tr.get_put]
      by_cases h' : t = u
      · simp [h']
      · simp [h', h]
theorem look_bind : ∀ {ps : List Nat} {vs : List Value} {e' : Env} (E : Env), e'.reads ps = some vs → ∀ t, (E.bind ps vs).look t = if t ∈ ps then e'.look t else E.look t
  | [], vs, e', E, h, t => by simp [Env.bind]
  | p :: ps, vs, e', E, h, t => by
    simp only [Env.reads] at h
    cases hp : e'.look p with
    | none => rw [hp] at h; cases h
    | some v =>
      rw [hp] at h
      simp only at h
      cases hr : e'.reads ps with
      | none => rw [hr] at h; cases h
      | some us =>
        rw [hr] at h
        cases h
        rw [Env.bind, look_bind _ hr]
        by_cases h1 : t ∈ ps
        · simp [h1]
        · rw [if_neg h1, Env.look_set]
          by_cases h2 : t = p
          · subst h2; simp [hp]
          · simp [h2, h1]
theorem join_ok {size : Nat} {e e' : Env} {a : Act} {ts ps : List Nat} {vs : List Value} (hE : EnvOK size e' a) (hA : Agree ts e e') (hr : e'.reads ps = some vs) : EnvOK size ((e.forget ts).bind ps vs) a := by
  refine ⟨hE.size, hE.defers, fun t v h => ?_⟩
  rw [look_bind _ hr] at h
  split at h
  · exact hE.look t v h
  · rw [look_forget] at h
    split at h
    · cases h
    · rename_i ht; exact hE.look t v (by rw [hA t ht]; exact h)
theorem join_agree {e e' : Env} {ts ps : List Nat} {vs : List Value} (hs : ∀ t ∈ ps, t ∈ ts) (hr : e'.reads ps = some vs) : Agree ts e ((e.forget ts).bind ps vs) := by
  intro t ht
  rw [look_bind _ hr, if_neg fun h => ht (hs t h), look_forget, if_neg ht]
theorem argsN_spec {c : Caller} {σ : St} {r : CRes} : ∀ {n : Nat} {K : List Value → Cmd} {l : List Value}, argsN n K l c σ = some r → l.length = n ∧ K l c σ = some r
  | 0, K, [], h => ⟨rfl, h⟩
  | 0, K, _ :: _, h => by cases h
  | n + 1, K, [], h => by cases h
  | n + 1, K, v :: l, h => by
    obtain ⟨h1, h2⟩ := argsN_spec (n := n) (K := fun vs => K (v :: vs)) (l := l) h
    exact ⟨by simp [h1], h2⟩
theorem toJ_spec {j : List Value → Cmd} {ps : List Nat} {e : Env} {c : Caller} {σ : St} {r : CRes} (h : toJ j ps e c σ = some r) : ∃ vs, e.reads ps = some vs ∧ j vs c σ = some r := by
  unfold toJ at h
  cases hr : e.reads ps with
  | none => rw [hr] at h; cases h
  | some vs => rw [hr] at h; exact ⟨vs, rfl, h⟩
/-- How the functions of a code go on. -/
inductive Goes (size : Nat) (c : Caller) (r : CRes) (kret : Env → Cmd) (ts : List Nat) (e : Env) (xs : List (Nat × Nat × (Env → Cmd))) (k : Env → Cmd) : Exit → Act → St → Prop where
  | normal {a' σ'} (e' : Env) (hE : EnvOK size e' a') (hA : Agree ts e e') (h : k e' c σ' = some r) : Goes size c r kret ts e xs k .normal a' σ'
  | exit {a' σ' id} (kk : Env → Cmd) (hx : findX xs id = some kk) (e' : Env) (hE : EnvOK size e' a') (hA : Agree ts e e') (h : kk e' c σ' = some r) : Goes size c r kret ts e xs k (.exit id) a' σ'
  | ret {a' σ'} (e' : Env) (hE : EnvOK size e' a') (h : kret e' c σ' = some r) : Goes size c r kret ts e xs k .ret a' σ'
  | panic {a' σ' v} (h : r = .panic v σ') (hd : a'.defers = []) : Goes size c r kret ts e xs k (.panic v) a' σ'
theorem den_spec {P : Program} {X : Prims} {size ret : Nat} {kret : Env → Cmd} {c : Caller} (hc : CallSim P X c) {r : CRes} : ∀ (code : Code) {e : Env} {live : Nat} {xs : List (Nat × Nat × (Env → Cmd))} {k : Env → Cmd} {σ : St} {a : Act},
    den P X size ret kret code e live xs k c σ = some r → EnvOK size e a →
    ∃ ex a' σ', (Evn fun n => exec P X n code a σ = some (ex, a', σ')) ∧ Goes size c r kret (dsts code) e xs k ex a' σ' := by
  intro code
  induction code with
  | skip =>
    intro e live xs k σ a h hE
    exact ⟨.normal, a, σ, .succ (.of fun n => by simp only [exec]), .normal e hE (Agree.refl _ _) h⟩
  | region id ops draw =>
    intro e live xs k σ a h hE
    cases draw with
    | false =>
      simp only [den] at h
      obtain ⟨ex, a', σ', hr, hR⟩ := dOps_spec hc h hE
      refine ⟨ex, a', σ', .succ (hr.mono fun n hn => by simp only [exec, hn]), ?_⟩
      rcases hR with ⟨rfl, e', hE', hA, hk⟩ | ⟨v, rfl, hr, hd⟩
      · exact .normal e' hE' hA hk
      · exact .panic hr hd
    | true =>
      simp only [den] at h
      obtain ⟨a', σ', hr, e', hE', hA, hk⟩ := dDrawn_spec hc h hE
      exact ⟨.normal, a', σ', .succ (hr.mono fun n hn => by simp only [exec, hn]), .normal e' hE' hA hk⟩
  | seq x y ihx ihy =>
    intro e live xs k σ a h hE
    simp only [den] at h
    obtain ⟨ex, a1, σ1, hr, hG⟩ := ihx h hE
    cases hG with
    | normal e1 hE1 hA1 h1 =>
      obtain ⟨ex, a', σ', hr', hG'⟩ := ihy h1 hE1
      refine ⟨ex, a', σ', .succ ((hr.and hr').mono fun n hn => by simp only [exec, hn.1, hn.2]), ?_⟩
      cases hG' with
      | normal e' hE' hA' h' => exact .normal e' hE' (hA1.trans hA') h'
      | exit kk hx e' hE' hA' h' => exact .exit kk hx e' hE' (hA1.trans hA') h'
      | ret e' hE' h' => exact .ret e' hE' h'
      | panic h' hd => exact .panic h' hd
    | exit kk hx e' hE' hA' h' => exact ⟨_, _, _, .succ (hr.mono fun n hn => by simp only [exec, hn]), .exit kk hx e' hE' (hA'.le fun t ht => List.mem_append_left _ ht) h'⟩
    | ret e' hE' h' => exact ⟨_, _, _, .succ (hr.mono fun n hn => by simp only [exec, hn]), .ret e' hE' h'⟩
    | panic h' hd => exact ⟨_, _, _, .succ (hr.mono fun n hn => by simp only [exec, hn]), .panic h' hd⟩
  | cond z x y ihx ihy =>
    intro e live xs k σ a h hE
    simp only [den] at h
    cases hz : e.eval z with
    | none => rw [hz] at h; cases h
    | some v =>
      rw [hz] at h
      have hz' := hE.eval z v hz
      -- one of two
      have two : ∀ {k' : Env → Cmd}, cCond v (den P X size ret kret x e live xs k') (den P X size ret kret y e live xs k') c σ = some r →
          ∃ ex a' σ', (Evn fun n => exec P X n (.cond z x y) a σ = some (ex, a', σ')) ∧ Goes size c r kret (dsts x ++ dsts y) e xs k' ex a' σ' := by
        intro k' h
        unfold cCond at h
        split at h
        · rename_i b
          simp only [Bool.cond_eq_ite] at h
          split at h
          · rename_i hb
            subst hb
            obtain ⟨ex, a', σ', hr, hG⟩ := ihx h hE
            refine ⟨ex, a', σ', .succ (hr.mono fun n hn => by simp only [exec, hz', hn]), ?_⟩
            cases hG with
            | normal e' hE' hA' h' => exact .normal e' hE' (hA'.le fun t ht => List.mem_append_left _ ht) h'
            | exit kk hx e' hE' hA' h' => exact .exit kk hx e' hE' (hA'.le fun t ht => List.mem_append_left _ ht) h'
            | ret e' hE' h' => exact .ret e' hE' h'
            | panic h' hd => exact .panic h' hd
          · rename_i hb
            simp only [Bool.not_eq_true] at hb
            subst hb
            obtain ⟨ex, a', σ', hr, hG⟩ := ihy h hE
            refine ⟨ex, a', σ', .succ (hr.mono fun n hn => by simp only [exec, hz', hn]), ?_⟩
            cases hG with
            | normal e' hE' hA' h' => exact .normal e' hE' (hA'.le fun t ht => List.mem_append_right _ ht) h'
            | exit kk hx e' hE' hA' h' => exact .exit kk hx e' hE' (hA'.le fun t ht => List.mem_append_right _ ht) h'
            | ret e' hE' h' => exact .ret e' hE' h'
            | panic h' hd => exact .panic h' hd
        · cases h
      simp only at h
      cases hble : Nat.ble (ends x + ends y) 1 with
      | true => rw [hble] at h; exact two h
      | false =>
        rw [hble] at h
        simp only [cJoin] at h
        obtain ⟨ex, a', σ', hr, hG⟩ := two h
        refine ⟨ex, a', σ', hr, ?_⟩
        cases hG with
        | normal e' hE' hA' h' =>
          obtain ⟨vs, hvs, h'⟩ := toJ_spec h'
          obtain ⟨_, h'⟩ := argsN_spec h'
          exact .normal _ (join_ok hE' hA' hvs) (join_agree ps_sub hvs) h'
        | exit kk hx e' hE' hA' h' => exact .exit kk hx e' hE' hA' h'
        | ret e' hE' h' => exact .ret e' hE' h'
        | panic h' hd => exact .panic h' hd
  | block i x ih =>
    intro e live xs k σ a h hE
    simp only [den] at h
    -- whatever stands behind the block
    have blk : ∀ {m : Nat} {k' : Env → Cmd}, den P X size ret kret x e live ((i, m, k') :: xs) k' c σ = some r →
        ∃ ex a' σ', (Evn fun n => exec P X n (.block i x) a σ = some (ex, a', σ')) ∧ Goes size c r kret (dsts x) e xs k' ex a' σ' := by
      intro m k' h
      obtain ⟨ex, a', σ', hr, hG⟩ := ih h hE
      cases hG with
      | normal e' hE' hA' h' => exact ⟨_, _, _, .succ (hr.mono fun n hn => by simp only [exec, hn]), .normal e' hE' hA' h'⟩
      | @exit a' σ' id kk hx e' hE' hA' h' =>
        simp only [findX, Bool.cond_eq_ite, Nat.beq_eq] at hx
        by_cases hi : i = id
        · rw [if_pos hi] at hx
          cases hx
          exact ⟨.normal, _, _, .succ (hr.mono fun n hn => by simp only [exec, hn, Bool.cond_eq_ite, Nat.beq_eq, hi, if_true]), .normal e' hE' hA' h'⟩
        · rw [if_neg hi] at hx
          exact ⟨.exit id, _, _, .succ (hr.mono fun n hn => by simp only [exec, hn, Bool.cond_eq_ite, Nat.beq_eq, if_neg (show ¬ id = i from fun h => hi h.symm)]), .exit kk hx e' hE' hA' h'⟩
      | ret e' hE' h' => exact ⟨_, _, _, .succ (hr.mono fun n hn => by simp only [exec, hn]), .ret e' hE' h'⟩
      | panic h' hd => exact ⟨_, _, _, .succ (hr.mono fun n hn => by simp only [exec, hn]), .panic h' hd⟩
    cases hble : Nat.ble (ends x + ends.exits i x) 1 with
    | true => rw [hble] at h; exact blk h
    | false =>
      rw [hble] at h
      simp only [cJoin] at h
      obtain ⟨ex, a', σ', hr, hG⟩ := blk h
      refine ⟨ex, a', σ', hr, ?_⟩
      cases hG with
      | normal e' hE' hA' h' =>
        obtain ⟨vs, hvs, h'⟩ := toJ_spec h'
        obtain ⟨_, h'⟩ := argsN_spec h'
        exact .normal _ (join_ok hE' hA' hvs) (join_agree ps_sub hvs) h'
      | exit kk hx e' hE' hA' h' => exact .exit kk hx e' hE' hA' h'
      | ret e' hE' h' => exact .ret e' hE' h'
      | panic h' hd => exact .panic h' hd
  | loop x ih =>
    intro e live xs k σ a h hE
    simp only [den] at h
    cases hv : e.reads (joinP (dsts x) (liveIn ret x 0 (liveXs xs)) size) with
    | none => rw [hv] at h; cases h
    | some vs =>
      rw [hv] at h
      simp only [cLoop] at h
      have hps := ps_sub (ts := dsts x) (live := liveIn ret x 0 (liveXs xs)) (n := size)
      generalize joinP (dsts x) (liveIn ret x 0 (liveXs xs)) size = ps at hv h hps
      have rounds : ∀ (m : Nat) (vs : List Value) (e1 : Env) (σ : St) (a : Act), loopF m (fun again => argsN ps.length fun us => den P X size ret kret x ((e.forget (dsts x)).bind ps us) (liveIn ret x 0 (liveXs xs)) xs (toJ again ps)) vs c σ = some r →
          EnvOK size e1 a → Agree (dsts x) e e1 → e1.reads ps = some vs →
          ∃ ex a' σ', (Evn fun n => exec P X n (.loop x) a σ = some (ex, a', σ')) ∧ Goes size c r kret (dsts x) e xs k ex a' σ' := by
        intro m
        induction m with
        | zero => intro vs e1 σ a h; cases h
        | succ m ihm =>
          intro vs e1 σ a h hE1 hA1 hvs
          simp only [loopF] at h
          obtain ⟨_, h⟩ := argsN_spec h
          have ag : ∀ {e'}, Agree (dsts x) ((e.forget (dsts x)).bind ps vs) e' → Agree (dsts x) e e' := fun hA t ht => by rw [hA t ht, join_agree hps hvs t ht]
          obtain ⟨ex, a', σ', hr, hG⟩ := ih h (join_ok hE1 hA1 hvs)
          cases hG with
          | normal e' hE' hA' h' =>
            obtain ⟨vs', hvs', h'⟩ := toJ_spec h'
            obtain ⟨ex, a'', σ'', hr', hG'⟩ := ihm vs' e' σ' a' h' hE' (ag hA') hvs'
            exact ⟨ex, a'', σ'', .succ ((hr.and hr').mono fun n hn => by simp only [exec, hn.1, hn.2]), hG'⟩
          | exit kk hx e' hE' hA' h' => exact ⟨_, _, _, .succ (hr.mono fun n hn => by simp only [exec, hn]), .exit kk hx e' hE' (ag hA') h'⟩
          | ret e' hE' h' => exact ⟨_, _, _, .succ (hr.mono fun n hn => by simp only [exec, hn]), .ret e' hE' h'⟩
          | panic h' hd => exact ⟨_, _, _, .succ (hr.mono fun n hn => by simp only [exec, hn]), .panic h' hd⟩
      exact rounds _ vs e σ a h hE (Agree.refl _ _) hv
  | exit i =>
    intro e live xs k σ a h hE
    simp only [den] at h
    cases hx : findX xs i with
    | none => rw [hx] at h; cases h
    | some kk => rw [hx] at h; exact ⟨.exit i, a, σ, .succ (.of fun n => by simp only [exec]), .exit kk hx e hE (Agree.refl _ _) h⟩
  | ret =>
    intro e live xs k σ a h hE
    exact ⟨.ret, a, σ, .succ (.of fun n => by simp only [exec]), .ret e hE h⟩
  | _ => intro e live xs k σ a h hE; simp only [den] at h; cases h
/-! ### functions -/
theorem res_spec {P : Program} {size : Nat} {e : Env} {a : Act} (hE : EnvOK size e a) {σ : St} : ∀ {rs : List ResultVar} {l : List RVal}, resD e rs = some l → resultsV P σ a rs = resV P σ l
  | [], l, h => by cases h; rfl
  | .tmp t :: rs, l, h => by
    simp only [resD] at h
    cases ht : e.look t with
    | none => rw [ht] at h; cases h
    | some v =>
      cases hr : resD e rs with
      | none => rw [ht, hr] at h; cases h
      | some l' =>
        rw [ht, hr] at h
        cases h
        simp only [resultsV, resV, res_spec hE hr, hE.look t v ht]
        rfl
  | .cell p t :: rs, l, h => by
    simp only [resD] at h
    cases ht : e.look p with
    | none => rw [ht] at h; cases h
    | some v =>
      cases hr : resD e rs with
      | none => rw [ht, hr] at h; cases h
      | some l' =>
        rw [ht, hr] at h
        cases h
        simp only [resultsV, resV, res_spec hE hr, hE.look p v ht]
        cases v <;> rfl
theorem valsOf_spec {P : Program} {σ : St} : ∀ {l : List RVal} {vs : List Value}, valsOf l = some vs → resV P σ l = some vs
  | [], vs, h => h
  | .val v :: l, vs, h => by
    simp only [valsOf] at h
    cases hl : valsOf l with
    | none => rw [hl] at h; cases h
    | some us => rw [hl] at h; simp only [resV, valsOf_spec hl]; exact h
  | .ld t p :: l, vs, h => by cases h
theorem dRet_spec {P : Program} {size : Nat} {e : Env} {a : Act} (hE : EnvOK size e a) {rs : List ResultVar} {c : Caller} {σ : St} {r : CRes} (h : dRet P rs e c σ = some r) : ∃ vs, resultsV P σ a rs = some vs ∧ r = .ret (oneOrTuple vs) σ := by
  unfold dRet at h
  cases hl : resD e rs with
  | none => rw [hl] at h; cases h
  | some l =>
    rw [hl] at h
    simp only at h
    cases hv : valsOf l with
    | some vs =>
      rw [hv] at h
      cases h
      exact ⟨vs, (res_spec hE hl).trans (valsOf_spec hv), rfl⟩
    | none =>
      rw [hv] at h
      simp only [cRet] at h
      cases hr : resV P σ l with
      | none => rw [hr] at h; cases h
      | some vs => rw [hr] at h; cases h; exact ⟨vs, (res_spec hE hl).trans hr, rfl⟩
theorem envOf_look : ∀ (vs : List Value) (n : Nat) (e : Env) (t : Nat), (envOf vs n e).look t = if n ≤ t ∧ t < n + vs.length then vs[t - n]? else e.look t
  | [], n, e, t => by simp [envOf]; omega
  | v :: vs, n, e, t => by
    rw [envOf, envOf_look vs (n + 1), Env.look_set]
    by_cases hm : t = n
    · subst hm; rw [if_neg (by omega), if_pos rfl, if_pos ⟨Nat.le_refl _, by simp⟩]; simp
    · by_cases h : n ≤ t ∧ t < n + (v :: vs).length
      · rw [if_pos (by simp at h ⊢; omega), if_pos h]
        obtain ⟨k, rfl⟩ : ∃ k, t = n + 1 + k := ⟨t - n - 1, by omega⟩
        rw [show n + 1 + k - (n + 1) = k by omega, show n + 1 + k - n = k + 1 by omega]; simp
      · rw [if_neg (by simp at h ⊢; omega), if_neg hm, if_neg h]
theorem env0 (args : List Value) (size : Nat) : EnvOK size (envOf args 0 .leaf) { tmps := tmpsOf args, size, defers := [] } := by
  refine ⟨rfl, rfl, fun t v h => ?_⟩
  rw [envOf_look] at h
  simp only [Act.look, tmpsOf, Tr.get_ofListF, Nat.zero_le, Nat.zero_add, true_and, Nat.sub_zero] at h ⊢
  split at h
  · rename_i ht; rw [if_pos ht, h]
  · rename_i ht; rw [if_neg ht]; cases h; rfl
theorem denF_spec {P : Program} {X : Prims} {n : Nat} {fn : Func} {c : Caller} (hc : CallSim P X c) {args : List Value} {σ : St} {r : CRes} (h : denF P X n fn args c σ = some r) : Evn fun m => bodyF P (exec P X m) fn args σ = some r := by
  unfold denF at h
  cases hb : fn.body with
  | none => rw [hb] at h; cases h
  | some code =>
    rw [hb] at h
    simp only at h
    obtain ⟨rfl, h⟩ := argsN_spec h
    obtain ⟨ex, a', σ', hr, hG⟩ := den_spec hc code h (env0 args _)
    refine hr.mono fun m hm => ?_
    simp only [bodyF, hb, hm]
    cases hG with
    | normal e' hE' hA' h' =>
      obtain ⟨vs, hv, rfl⟩ := dRet_spec hE' h'
      simp only [hE'.defers, bodyF.retF, hv]
    | exit kk hx => cases hx
    | ret e' hE' h' =>
      obtain ⟨vs, hv, rfl⟩ := dRet_spec hE' h'
      simp only [hE'.defers, bodyF.retF, hv]
    | panic h' hd => simp only [hd, h']
/-- A table that holds the program's functions. -/
def TabOK (P : Program) (X : Prims) (tab : Tr (List Value → Cmd)) : Prop := ∀ f F, tab.get f = some F → ∃ fn n, P.funcs[f]? = some fn ∧ F = denF P X n fn
theorem runCall_sim {P : Program} {X : Prims} {c : Caller} (hc : CallSim P X c) {args : List Value} {σ : St} {r : CRes} (h : runCall X c args σ = some r) : Evn fun n => runCall X (call P X n) args σ = some r := by
  unfold runCall at h
  split at h
  · rename_i g first captured
    cases hq : c g (first.toList ++ captured.toList) σ with
    | none => rw [hq] at h; cases h
    | some q =>
      refine (hc _ _ _ _ hq).mono fun n hn => ?_
      rw [hq] at h
      simp only [runCall, hn]
      exact h
  · cases h
theorem fast_sim {P : Program} {X : Prims} {tab : Tr (List Value → Cmd)} (hT : TabOK P X tab) : ∀ n, CallSim P X (fast X tab n)
  | 0 => fun f args σ r h => by cases h
  | n + 1 => fun f args σ r h => by
    have ih := fast_sim hT n
    simp only [fast] at h
    refine .succ ?_
    cases hf : X.find f args σ with
    | some q =>
      rw [hf] at h
      cases q with
      | none => cases h
      | some p => cases h; exact .of fun n => by simp only [call, hf]
    | none =>
      rw [hf] at h
      simp only [Bool.cond_eq_ite, Nat.beq_eq] at h
      split at h
      · rename_i hr
        subst hr
        exact (runCall_sim ih h).mono fun n hn => by simp only [call, hf, Bool.cond_eq_ite, Nat.beq_eq, if_true, hn]
      · rename_i hr
        cases ht : tab.get f with
        | none => rw [ht] at h; cases h
        | some F =>
          rw [ht] at h
          obtain ⟨fn, k, hfn, rfl⟩ := hT f F ht
          exact (denF_spec ih h).mono fun n hn => by simp only [call, hf, Bool.cond_eq_ite, Nat.beq_eq, hr, if_false, hfn, hn]
end
end Go.AM
