import Derived.Test.YtmgpnomphfeoiaaGreatDoorAmOps
set_option linter.all false
namespace Go.AM
noncomputable section
section
variable {P : Program} {B : Nat} {ρ : Ren} {σ : St} {w : World}
theorem evals_VRs {ev : Ev} {evc : Operand → Value} : ∀ {xs : List Operand} {vs : List Value}, evals ev xs = some vs → (∀ x ∈ xs, ∀ v, ev x = some v → VR ρ v (evc x)) → VRs ρ vs (xs.map evc)
  | [], vs, h, _ => by simp [evals] at h; subst h; exact VRs.nil ρ
  | x :: xs, vs, h, hev => by
    simp only [evals] at h
    cases h1 : ev x with
    | none => rw [h1] at h; cases h
    | some v =>
      rw [h1] at h
      cases h2 : evals ev xs with
      | none => rw [h2] at h; cases h
      | some l => rw [h2] at h; cases h; exact VRs.cons (hev x List.mem_cons_self v h1) (evals_VRs h2 fun y hy => hev y (List.mem_cons_of_mem _ hy))
theorem evalParts_R {ev : Ev} {evc : Operand → Value} : ∀ {ps : List (Nat × Operand)} {vs : List (Nat × Value)}, evalParts ev ps = some vs → (∀ x ∈ ps.map (·.2), ∀ v, ev x = some v → VR ρ v (evc x)) →
    PairsR ρ vs (ps.map fun (i, x) => (i, evc x))
  | [], vs, h, _ => by simp [evalParts] at h; subst h; exact ⟨rfl, fun _ _ _ h => by simp at h⟩
  | (i, x) :: ps, vs, h, hev => by
    simp only [evalParts] at h
    cases h1 : ev x with
    | none => rw [h1] at h; cases h
    | some v =>
      rw [h1] at h
      cases h2 : evalParts ev ps with
      | none => rw [h2] at h; cases h
      | some l =>
        rw [h2] at h; cases h
        obtain ⟨a, b⟩ := evalParts_R (evc := evc) h2 fun y hy => hev y (List.mem_cons_of_mem _ hy)
        refine ⟨by simp [a], fun k u u' hu hu' => ?_⟩
        cases k with
        | zero => simp at hu hu'; subst hu; subst hu'; exact ⟨rfl, hev x List.mem_cons_self v h1⟩
        | succ k => exact b k u u' (by simpa using hu) (by simpa using hu')
theorem evalOpt_R {ev : Ev} {evc : Operand → Value} {x : Option Operand} {v : Option Value} (h : evalOpt ev x = some v) (hev : ∀ y, x = some y → ∀ v, ev y = some v → VR ρ v (evc y)) : VRo ρ v (x.map evc) := by
  cases x with
  | none => simp [evalOpt] at h; subst h; trivial
  | some y =>
    simp only [evalOpt] at h
    cases h1 : ev y with
    | none => rw [h1] at h; cases h
    | some u => rw [h1] at h; cases h; exact hev y rfl u h1
theorem VR.inv_fn {f : FuncId} {a b : Array Value} {v : Value} (h : VR ρ (.func (.func f) a b) v) : ∃ (a' b' : Array Value), v = .func (.func f) a' b' ∧ VRs ρ a.toList a'.toList ∧ VRs ρ b.toList b'.toList := by
  cases h with | func f ha h hb h' => exact ⟨_, _, rfl, ⟨ha, h⟩, ⟨hb, h'⟩⟩
/-- A deferred call in the abstract, and as it is. -/
def DR (ρ : Ren) (d d' : Deferred) : Prop := ∃ fn cap cap' a a', d = { target := .fn fn cap, args := a } ∧ d' = { target := .fn fn cap', args := a' } ∧ VRs ρ cap.toList cap'.toList ∧ VRs ρ a.toList a'.toList
def Does (P : Program) (B : Nat) (ρ : Ren) (σ : St) (w : World) (r : Result Next) : Out → Prop
  | .val v => ∃ v', r = .ok (.value v') w ∧ VR ρ v v'
  | .new mk body => ∃ v' w', r = .ok (.value v') w' ∧ MadeR ρ mk body w w' v'
  | .upd v σ' => ∃ n ρ' w' v', r = .ok n w' ∧ (n = .value v' ∨ (n = .skip ∧ v' = Go.undef)) ∧ VR ρ' v v' ∧ Sim B ρ' σ' w' ∧ Ext ρ σ w ρ' σ' w'
  | .enter f args => ∃ args' : Array Value, r = (callFunc f args').run P w ∧ VRs ρ args args'.toList
  | .defer d => ∃ d', r = .ok (.defer d') w ∧ DR ρ d d'
  | .recover => r = .ok .recover w
  | .panic v => ∃ v', r = .halt (.panic v') w ∧ VR ρ v v'
theorem ev1_some {x : Option Value} {f : Value → Option Out} {out : Out} (h : ev1 x f = some out) : ∃ v, x = some v ∧ f v = some out := by
  cases x with
  | none => cases h
  | some v => exact ⟨v, rfl, h⟩
theorem vOut_some {x : Option Value} {out : Out} (h : vOut x = some out) : ∃ v, x = some v ∧ out = .val v := by
  cases x with
  | none => cases h
  | some v => cases h; exact ⟨v, rfl, rfl⟩
theorem uOut_some {x : Option St} {out : Out} (h : uOut x = some out) : ∃ σ', x = some σ' ∧ out = .upd undefV σ' := by
  cases x with
  | none => cases h
  | some v => cases h; exact ⟨v, rfl, rfl⟩
theorem wOut_some {x : Option (Value × St)} {out : Out} (h : wOut x = some out) : ∃ v σ', x = some (v, σ') ∧ out = .upd v σ' := by
  cases x with
  | none => cases h
  | some v => cases h; exact ⟨v.1, v.2, rfl, rfl⟩
theorem Upd.does {r : Result Value} {v : Value} {σ' : St} (h : Upd B ρ σ w r v σ') {r' : Result Next} (hr : r' = r.andThen fun v w => .ok (.value v) w) : Does P B ρ σ w r' (.upd v σ') := by
  obtain ⟨ρ', w', v', h1, h2, h3, h4⟩ := h
  subst h1
  exact ⟨_, ρ', w', v', hr, .inl rfl, h2, h3, h4⟩
theorem NewOr.does {r : Result Value} {out : Out} (h : NewOr ρ w r out) {r' : Result Next} (hr : r' = r.andThen fun v w => .ok (.value v) w) : Does P B ρ σ w r' out := by
  cases out with
  | val v => obtain ⟨v', h1, h2⟩ := h; subst h1; exact ⟨v', hr, h2⟩
  | new mk body => obtain ⟨v', w', h1, h2⟩ := h; subst h1; exact ⟨v', w', hr, h2⟩
  | _ => exact h.elim
theorem mem_toList {x : Operand} {a : Array Operand} (h : x ∈ a) : x ∈ a.toList := Array.mem_toList_iff.2 h
theorem run_max0 {ts : List TypeId} {ty : TypeId} {vs vs' : List Value} {v : Value} (h1 : minMax0 true vs = some v) (hv : VRs ρ vs vs') :
    ∃ v', (Builtin.max_ ⟨ts⟩ ty ⟨vs'⟩).run P w = .ok v' w ∧ VR ρ v v' := by
  cases vs with
  | nil => cases h1
  | cons x rest =>
    obtain ⟨x', l, rfl, hx, hl⟩ := hv.inv_cons
    have hm : Builtin.max_ ⟨ts⟩ ty ⟨x' :: l⟩ = l.foldlM Builtin.max2 x' := rfl
    cases rest with
    | nil =>
      have := hl.inv_nil; subst this
      simp [minMax0, minMax0.go] at h1; subst h1
      exact ⟨x', by simp [Builtin.max_], hx⟩
    | cons y rest =>
      have hxi : ∃ k n, x = .int k n := by
        simp only [minMax0] at h1
        unfold minMax0.go at h1
        split at h1
        · rename_i e; cases e
        · exact ⟨_, _, rfl⟩
        · cases h1
      obtain ⟨g2, g3⟩ := max_go (ρ := ρ) (w := w) (P := P) (y :: rest) l x v h1 hxi hl
      obtain ⟨k, n, rfl⟩ := hxi
      have hx' := hx.inv_int; subst hx'
      obtain ⟨k', n', rfl⟩ := g3
      exact ⟨_, by rw [hm, g2], .int _ _⟩
theorem run_maxV {ts : List TypeId} {ty : TypeId} {vs vs' : List Value} {v : Value} (h1 : minMax true vs = some v) (hv : VRs ρ vs vs') :
    ∃ v', (Builtin.max_ ⟨ts⟩ ty ⟨vs'⟩).run P w = .ok v' w ∧ VR ρ v v' := by
  unfold minMax at h1
  split at h1
  · obtain ⟨x', l, rfl, hx, hl⟩ := hv.inv_cons
    obtain ⟨k, n, rfl, hm⟩ := hx.inv_set
    obtain ⟨u, h2, h3⟩ := setOp_VR (ρ := ρ) h1 hm
    obtain ⟨v', h4, h5⟩ := run_max0 (P := P) (w := w) (ts := ts) (ty := ty) h2 (VRs.cons (.int k n) hl)
    exact ⟨v', h4, h3 v' h5⟩
  · exact run_max0 h1 hv
theorem run_min0 {ts : List TypeId} {ty : TypeId} {vs vs' : List Value} {v : Value} (h1 : minMax0 false vs = some v) (hv : VRs ρ vs vs') :
    ∃ v', (Builtin.min_ ⟨ts⟩ ty ⟨vs'⟩).run P w = .ok v' w ∧ VR ρ v v' := by
  cases vs with
  | nil => cases h1
  | cons x rest =>
    obtain ⟨x', l, rfl, hx, hl⟩ := hv.inv_cons
    have hm : Builtin.min_ ⟨ts⟩ ty ⟨x' :: l⟩ = l.foldlM Builtin.min2 x' := rfl
    cases rest with
    | nil =>
      have := hl.inv_nil; subst this
      simp [minMax0, minMax0.go] at h1; subst h1
      exact ⟨x', by simp [Builtin.min_], hx⟩
    | cons y rest =>
      have hxi : ∃ k n, x = .int k n := by
        simp only [minMax0] at h1
        unfold minMax0.go at h1
        split at h1
        · rename_i e; cases e
        · exact ⟨_, _, rfl⟩
        · cases h1
      obtain ⟨g2, g3⟩ := min_go (ρ := ρ) (w := w) (P := P) (y :: rest) l x v h1 hxi hl
      obtain ⟨k, n, rfl⟩ := hxi
      have hx' := hx.inv_int; subst hx'
      obtain ⟨k', n', rfl⟩ := g3
      exact ⟨_, by rw [hm, g2], .int _ _⟩
theorem run_minV {ts : List TypeId} {ty : TypeId} {vs vs' : List Value} {v : Value} (h1 : minMax false vs = some v) (hv : VRs ρ vs vs') :
    ∃ v', (Builtin.min_ ⟨ts⟩ ty ⟨vs'⟩).run P w = .ok v' w ∧ VR ρ v v' := by
  unfold minMax at h1
  split at h1
  · obtain ⟨x', l, rfl, hx, hl⟩ := hv.inv_cons
    obtain ⟨k, n, rfl, hm⟩ := hx.inv_set
    obtain ⟨u, h2, h3⟩ := setOp_VR (ρ := ρ) h1 hm
    obtain ⟨v', h4, h5⟩ := run_min0 (P := P) (w := w) (ts := ts) (ty := ty) h2 (VRs.cons (.int k n) hl)
    exact ⟨v', h4, h3 v' h5⟩
  · exact run_min0 h1 hv
set_option maxHeartbeats 1000000 in
theorem builtin_sound {b : Builtin} {ts : Array TypeId} {vs : List Value} {vs' : Array Value} {out : Out} (hL : Local ρ σ w) (hS : (match b with | .len | .min | .max | .cap => False | _ => True) → Sim B ρ σ w ∧ B ≤ w.heap.size)
    (h : builtinV P σ b ts.toList vs = some out) (hv : VRs ρ vs vs'.toList) (ty : TypeId) (consts : Array Bool) : Does P B ρ σ w ((Go.builtin b ts ty consts vs').run P w) out := by
  obtain ⟨ts⟩ := ts
  obtain ⟨vs'⟩ := vs'
  simp only at h hv
  cases b <;> simp only [builtinV] at h <;> (try (cases h; done))
  case append =>
    obtain ⟨v, σ', h1, rfl⟩ := wOut_some h
    obtain ⟨hs, hB⟩ := hS trivial
    exact (run_appendV hs hB h1 hv ty).does (by simp [Go.builtin])
  case cap =>
    split at h
    case h_2 => cases h
    rename_i t trest base len c rest
    split at h
    case h_2 => cases h
    rename_i e hu
    simp only [Bool.cond_eq_ite] at h
    split at h
    case isFalse => cases h
    rename_i hj
    cases h
    obtain ⟨x', l, rfl, hx, _⟩ := hv.inv_cons
    refine ⟨.int .i64 (capOf c : Nat), ?_, .int _ _⟩
    cases hx with
    | nilSlice hk hj => simp [Go.builtin, Builtin.cap_, run_underlying hu, goInt, hk]
    | slice hr hl hc hz =>
      unfold capOk at hc; rw [if_pos hj] at hc
      simp [Go.builtin, Builtin.cap_, run_underlying hu, goInt, hc]
    | noSlice hk hr => simp [Go.builtin, Builtin.cap_, run_underlying hu, goInt, hk]
  case clear =>
    obtain ⟨v, σ', h1, rfl⟩ := wOut_some h
    exact (run_clearV (hS trivial).1 h1 hv ty).does (by simp [Go.builtin])
  case copy =>
    obtain ⟨v, σ', h1, rfl⟩ := wOut_some h
    exact (run_copyV (hS trivial).1 h1 hv ty).does (by simp [Go.builtin])
  case delete =>
    obtain ⟨v, σ', h1, rfl⟩ := wOut_some h
    exact (run_deleteV (hS trivial).1 h1 hv ty).does (by simp [Go.builtin])
  case len =>
    split at h
    case h_2 => cases h
    rename_i t trest x rest
    obtain ⟨v, h1, rfl⟩ := vOut_some h
    obtain ⟨x', l, rfl, hx, _⟩ := hv.inv_cons
    obtain ⟨r1, r2⟩ := run_lenV (P := P) hL h1 hx (ts := ⟨t :: trest⟩) rfl ty (args := ⟨x' :: l⟩) rfl
    exact ⟨v, by simp only [Go.builtin, Sem.run_bind, r1, Result.andThen_ok, Sem.run_pure], r2⟩
  case max =>
    obtain ⟨v, h1, rfl⟩ := vOut_some h
    obtain ⟨v', h2, h3⟩ := run_maxV (P := P) (w := w) (ts := ts) (ty := ty) h1 hv
    exact ⟨v', by simp only [Go.builtin, Sem.run_bind, h2, Result.andThen_ok, Sem.run_pure], h3⟩
  case min =>
    obtain ⟨v, h1, rfl⟩ := vOut_some h
    obtain ⟨v', h2, h3⟩ := run_minV (P := P) (w := w) (ts := ts) (ty := ty) h1 hv
    exact ⟨v', by simp only [Go.builtin, Sem.run_bind, h2, Result.andThen_ok, Sem.run_pure], h3⟩
  case recover => cases h; simp [Does, Go.builtin]
set_option maxHeartbeats 2000000 in
theorem opV_sound {ev : Ev} {evc : Operand → Value} {o : Oper} {out : Out} (hL : Local ρ σ w) (hS : isHeavy o = true → Sim B ρ σ w ∧ B ≤ w.heap.size)
    (hev : ∀ x ∈ o.op.operands, ∀ v, ev x = some v → VR ρ v (evc x)) (h : opV P ev σ o = some out) : Does P B ρ σ w ((execOp evc o).run P w) out := by
  obtain ⟨dst, op, type, pos, after, guard⟩ := o
  unfold opV at h
  simp only at h hev hS
  cases op <;> (try simp only at h) <;> (try (cases h; done))
  case move x =>
    obtain ⟨v, h1, rfl⟩ := vOut_some h
    exact ⟨evc x, rfl, hev x (by simp [Op.operands]) v h1⟩
  case assign x =>
    obtain ⟨v, h1, rfl⟩ := vOut_some h
    exact ⟨evc x, rfl, hev x (by simp [Op.operands]) v h1⟩
  case pick c a b =>
    obtain ⟨v, h1, rfl⟩ := vOut_some h
    unfold pickV at h1
    split at h1
    · rename_i hc
      have := (hev c (by simp [Op.operands]) _ hc).inv_bool
      exact ⟨evc a, by simp [execOp, this, asBool], hev a (by simp [Op.operands]) v h1⟩
    · rename_i hc
      have := (hev c (by simp [Op.operands]) _ hc).inv_bool
      exact ⟨evc b, by simp [execOp, this, asBool], hev b (by simp [Op.operands]) v h1⟩
    · cases h1
  case alloc t => exact (run_allocV h).does (by simp [execOp])
  case box t x =>
    unfold boxV at h
    cases hx : ev x with
    | none => rw [hx] at h; cases h
    | some z =>
      rw [hx] at h; cases h
      have hz := hev x (by simp [Op.operands]) _ hx
      refine ⟨_, _, ?_, made_ptr' hz t (allocMk_is P t z)⟩
      simp [execOp, Instr.box, newVar, newRow]
  case build t ps =>
    cases hp : evalParts ev ps.toList with
    | none => rw [hp] at h; cases h
    | some vs =>
      rw [hp] at h
      obtain ⟨v, h1, rfl⟩ := vOut_some h
      have hR := evalParts_R (evc := evc) hp fun y hy => hev y (by simpa [Op.operands] using hy)
      obtain ⟨v', r, hv⟩ := run_buildV (vs' := ps.map fun (i, x) => (i, evc x)) h1 (by simpa using hR) w
      exact ⟨v', by simp only [execOp, Sem.run_bind, r, Result.andThen_ok, Sem.run_pure], hv⟩
  case buildSlice t len ps =>
    cases hp : evalParts ev ps.toList with
    | none => rw [hp] at h; cases h
    | some vs =>
      rw [hp] at h
      have hR := evalParts_R (evc := evc) hp fun y hy => hev y (by simpa [Op.operands] using hy)
      exact (run_buildSliceV (w := w) (vs' := ps.map fun (i, x) => (i, evc x)) h (by simpa using hR)).does (by simp [execOp])
  case load t x =>
    obtain ⟨p, hp, h⟩ := ev1_some h
    obtain ⟨v, h1, rfl⟩ := vOut_some h
    have hx := hev x (by simp [Op.operands]) _ hp
    unfold loadV at h1
    split at h1
    · obtain ⟨q, hq, hs, he⟩ := hx.inv_ptr
      obtain ⟨v', r, hv⟩ := run_loadVar (P := P) hL h1 hq
      exact ⟨v', by simp only [execOp, Instr.loadAt, he, Instr.sureAddr, Sem.run_bind, Sem.run_pure, Result.andThen_ok, r], hv⟩
    · cases h1
  case store t x y =>
    obtain ⟨p, hp, h⟩ := ev1_some h
    obtain ⟨z, hz, h⟩ := ev1_some h
    obtain ⟨σ', h1, rfl⟩ := uOut_some h
    obtain ⟨hs, hB⟩ := hS rfl
    have hx := hev x (by simp [Op.operands]) _ hp
    have hy := hev y (by simp [Op.operands]) _ hz
    unfold storeV at h1
    split at h1
    · obtain ⟨q, hq, _, he⟩ := hx.inv_ptr
      obtain ⟨w', r, k1, k2⟩ := run_storeVar (P := P) hs h1 hy hq
      exact ⟨.skip, ρ, w', _, by simp only [execOp, Instr.storeAt, he, Instr.sureAddr, Sem.run_bind, Sem.run_pure, Result.andThen_ok, r], .inr ⟨rfl, rfl⟩, VR.undef ρ, k1, k2⟩
    · cases h1
  case nilCheck x =>
    obtain ⟨p, hp, h⟩ := ev1_some h
    obtain ⟨v, h1, rfl⟩ := vOut_some h
    have hx := hev x (by simp [Op.operands]) _ hp
    unfold nilCheckV at h1
    split at h1
    · cases h1
      obtain ⟨q, hq, _, he⟩ := hx.inv_ptr
      exact ⟨evc x, by simp [execOp, he], hx⟩
    · cases h1
      obtain ⟨a', b', he, _, _⟩ := hx.inv_func
      exact ⟨evc x, by simp [execOp, he], hx⟩
    · cases h1
  case binOp op t x y yt =>
    obtain ⟨p, hp, h⟩ := ev1_some h
    obtain ⟨q, hq, h⟩ := ev1_some h
    obtain ⟨v, h1, rfl⟩ := vOut_some h
    obtain ⟨v', r, hv⟩ := run_binV (P := P) h1 (hev x (by simp [Op.operands]) _ hp) (hev y (by simp [Op.operands]) _ hq) x y w
    refine ⟨v', ?_, hv⟩
    simp only [execOp]
    rw [Sem.run_bind, r]; rfl
  case unOp op t x =>
    obtain ⟨p, hp, h⟩ := ev1_some h
    obtain ⟨v, h1, rfl⟩ := vOut_some h
    obtain ⟨r, hv⟩ := run_unV (P := P) h1 (hev x (by simp [Op.operands]) _ hp) w
    exact ⟨v, by simp only [execOp, Sem.run_bind, r, Result.andThen_ok, Sem.run_pure], hv⟩
  case convert s d x =>
    obtain ⟨p, hp, h⟩ := ev1_some h
    exact (run_convV hL h (hev x (by simp [Op.operands]) _ hp)).does (by simp [execOp])
  case makeInterface t x =>
    obtain ⟨p, hp, h⟩ := ev1_some h
    obtain ⟨v, h1, rfl⟩ := vOut_some h
    obtain ⟨v', r, hv⟩ := run_makeInterfaceV (P := P) h1 (hev x (by simp [Op.operands]) _ hp) w
    exact ⟨v', by simp only [execOp, Sem.run_bind, r, Result.andThen_ok, Sem.run_pure], hv⟩
  case makeFunc fn first captured =>
    split at h
    case h_2 => cases h
    rename_i f x y hx hy
    cases h
    have h1 := evals_VRs (evc := evc) hx fun z hz => hev z (by simp [Op.operands, Array.mem_toList_iff.1 hz])
    have h2 := evals_VRs (evc := evc) hy fun z hz => hev z (by simp [Op.operands, Array.mem_toList_iff.1 hz])
    refine ⟨.func (.func f) (first.map evc) (captured.map evc), by simp [execOp, Instr.makeFunc], ?_⟩
    have := VR.func' (f := f) h1 h2
    rw [show first.map evc = ⟨first.toList.map evc⟩ from Array.ext' (by simp), show captured.map evc = ⟨captured.toList.map evc⟩ from Array.ext' (by simp)]
    exact this
  case makeMap t r =>
    cases r with
    | some _ => cases h
    | none =>
      cases h
      refine ⟨.map (some w.heap.size), { w with heap := w.heap.push (.map #[] 0) }, by simp [execOp, Instr.makeMap], _, { b := w.heap.size, s := 0, z := 0 }, more_push w _, rfl, ⟨rfl, #[], 0, World.more_new (more_push w _), MapKept.stamped_empty _, VRs.nil ρ, VRs.nil ρ⟩, ⟨fun k _ hk => by simp at hk, fun _ => by simp [World.frozen?]⟩, (fun ρ' i hi => .map hi), fun _ h => by cases h⟩
  case makeSlice t l c =>
    obtain ⟨p, hp, h⟩ := ev1_some h
    obtain ⟨q, hq, h⟩ := ev1_some h
    exact (run_makeSliceV h (hev l (by simp [Op.operands]) _ hp) (hev c (by simp [Op.operands]) _ hq)).does (by simp [execOp])
  case slice t x lo hi mx =>
    obtain ⟨p, hp, h⟩ := ev1_some h
    split at h
    case h_2 => cases h
    rename_i l' h' m' hl hh hm
    obtain ⟨v, h1, rfl⟩ := vOut_some h
    obtain ⟨v', r, hv⟩ := run_sliceV (P := P) h1 (hev x (by simp [Op.operands]) _ hp) (evalOpt_R (evc := evc) hl fun y hy => hev y (by subst hy; simp [Op.operands])) (evalOpt_R (evc := evc) hh fun y hy => hev y (by subst hy; simp [Op.operands])) (evalOpt_R (evc := evc) hm fun y hy => hev y (by subst hy; simp [Op.operands])) w
    exact ⟨v', by simp only [execOp, Sem.run_bind, r, Result.andThen_ok, Sem.run_pure], hv⟩
  case fieldAddr t x f =>
    obtain ⟨p, hp, h⟩ := ev1_some h
    obtain ⟨v, h1, rfl⟩ := vOut_some h
    obtain ⟨v', r, hv⟩ := run_fieldAddrV (P := P) h1 (hev x (by simp [Op.operands]) _ hp) w
    exact ⟨v', by simp only [execOp, Sem.run_bind, r, Result.andThen_ok, Sem.run_pure], hv⟩
  case field t x f =>
    obtain ⟨p, hp, h⟩ := ev1_some h
    obtain ⟨v, h1, rfl⟩ := vOut_some h
    obtain ⟨v', r, hv⟩ := run_fieldV (P := P) h1 (hev x (by simp [Op.operands]) _ hp) w
    exact ⟨v', by simp only [execOp, Sem.run_bind, r, Result.andThen_ok, Sem.run_pure], hv⟩
  case indexAddr t x i =>
    obtain ⟨p, hp, h⟩ := ev1_some h
    obtain ⟨q, hq, h⟩ := ev1_some h
    obtain ⟨v, h1, rfl⟩ := vOut_some h
    obtain ⟨v', r, hv⟩ := run_indexAddrV (P := P) h1 (hev x (by simp [Op.operands]) _ hp) (hev i (by simp [Op.operands]) _ hq) w
    exact ⟨v', by simp only [execOp, Sem.run_bind, r, Result.andThen_ok, Sem.run_pure], hv⟩
  case index t x i =>
    obtain ⟨p, hp, h⟩ := ev1_some h
    obtain ⟨q, hq, h⟩ := ev1_some h
    obtain ⟨v, h1, rfl⟩ := vOut_some h
    obtain ⟨v', r, hv⟩ := run_indexV (P := P) h1 (hev x (by simp [Op.operands]) _ hp) (hev i (by simp [Op.operands]) _ hq) w
    exact ⟨v', by simp only [execOp, Sem.run_bind, r, Result.andThen_ok, Sem.run_pure], hv⟩
  case lookup t x k ok =>
    obtain ⟨p, hp, h⟩ := ev1_some h
    obtain ⟨q, hq, h⟩ := ev1_some h
    obtain ⟨v, h1, rfl⟩ := vOut_some h
    obtain ⟨v', r, hv⟩ := run_lookupV (P := P) hL h1 (hev x (by simp [Op.operands]) _ hp) (hev k (by simp [Op.operands]) _ hq)
    exact ⟨v', by simp only [execOp, Sem.run_bind, r, Result.andThen_ok, Sem.run_pure], hv⟩
  case mapUpdate t x k y =>
    obtain ⟨p, hp, h⟩ := ev1_some h
    obtain ⟨q, hq, h⟩ := ev1_some h
    obtain ⟨z, hz, h⟩ := ev1_some h
    obtain ⟨σ', h1, rfl⟩ := uOut_some h
    obtain ⟨w', r, k1, k2⟩ := run_mapUpdateV (P := P) (hS rfl).1 h1 (hev x (by simp [Op.operands]) _ hp) (hev k (by simp [Op.operands]) _ hq) (hev y (by simp [Op.operands]) _ hz)
    exact ⟨.skip, ρ, w', _, by simp only [execOp, Sem.run_bind, r, Result.andThen_ok, Sem.run_pure], .inr ⟨rfl, rfl⟩, VR.undef ρ, k1, k2⟩
  case typeAssert x u t ok =>
    obtain ⟨p, hp, h⟩ := ev1_some h
    obtain ⟨v, h1, rfl⟩ := vOut_some h
    obtain ⟨v', r, hv⟩ := run_typeAssertV (P := P) (u := u) h1 (hev x (by simp [Op.operands]) _ hp) w
    exact ⟨v', by simp only [execOp, Sem.run_bind, r, Result.andThen_ok, Sem.run_pure], hv⟩
  case extract x i =>
    obtain ⟨p, hp, h⟩ := ev1_some h
    obtain ⟨v, h1, rfl⟩ := vOut_some h
    obtain ⟨v', r, hv⟩ := run_extractV (P := P) h1 (hev x (by simp [Op.operands]) _ hp) w
    exact ⟨v', by simp only [execOp, Sem.run_bind, r, Result.andThen_ok, Sem.run_pure], hv⟩
  case call c =>
    obtain ⟨callee, args, argTypes⟩ := c
    cases callee with
    | invoke _ _ => cases h
    | builtin b =>
      simp only at h
      cases hvs : evals ev args.toList with
      | none => rw [hvs] at h; cases h
      | some vs =>
        rw [hvs] at h
        simp only at h
        have hv := evals_VRs (evc := evc) hvs fun z hz => hev z (by simp [Op.operands, Call.operands, Array.mem_toList_iff.1 hz])
        simp only [execOp, resolve, invoke, Sem.run_bind, Sem.run_pure, Result.andThen_ok]
        exact builtin_sound (P := P) (B := B) (vs' := args.map evc) hL (fun hb => hS (by cases b <;> first | (exact hb.elim) | rfl)) h (by simpa using hv) type _
    | value f =>
      simp only at h
      obtain ⟨g, hg, h⟩ := ev1_some h
      cases hvs : evals ev args.toList with
      | none => rw [hvs] at h; cases h
      | some vs =>
        rw [hvs] at h
        simp only at h
        have hv := evals_VRs (evc := evc) hvs fun z hz => hev z (by simp [Op.operands, Call.operands, Array.mem_toList_iff.1 hz])
        have hf := hev f (by simp [Op.operands, Call.operands]) _ hg
        unfold enterV at h
        split at h
        · cases h
          rename_i fid first captured
          obtain ⟨a', b', he, ha, hb⟩ := hf.inv_func
          refine ⟨a' ++ args.map evc ++ b', ?_, ?_⟩
          · simp [execOp, resolve, Deferred.ofValue, he, invoke]
          · simp only [Array.toList_append, Array.toList_map]
            exact (ha.append hv).append hb
        · cases h
  case defer c =>
    obtain ⟨callee, args, argTypes⟩ := c
    cases callee with
    | invoke _ _ => cases h
    | builtin b => cases h
    | value f =>
      simp only at h
      split at h
      case h_2 => cases h
      rename_i fn first captured vs hf hvs
      cases h
      have hv := evals_VRs (evc := evc) hvs fun z hz => hev z (by simp [Op.operands, Call.operands, Array.mem_toList_iff.1 hz])
      have hff := hev f (by simp [Op.operands, Call.operands]) _ hf
      obtain ⟨a', b', he, ha, hb⟩ := hff.inv_fn
      refine ⟨{ target := .fn (.func fn) b', args := a' ++ args.map evc }, ?_, .func fn, captured, b', _, _, rfl, rfl, hb, ?_⟩
      · simp [execOp, resolve, Deferred.ofValue, he]
      · simp only [Array.toList_append, Array.toList_map]
        exact VRs.append ha hv
  case panic x =>
    split at h
    case h_2 => cases h
    rename_i t y hx
    cases h
    have hxx := hev x (by simp [Op.operands]) _ hx
    obtain ⟨y', he, hy⟩ := hxx.inv_iface
    exact ⟨.iface t y', by simp [execOp, Instr.panic, he], .iface t hy⟩
end
end
end Go.AM
