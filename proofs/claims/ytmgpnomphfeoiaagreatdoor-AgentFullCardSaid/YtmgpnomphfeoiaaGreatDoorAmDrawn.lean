import Derived.Test.YtmgpnomphfeoiaaGreatDoorAmPlan
set_option linter.all false
namespace Go.AM
/-! ### what an operation comes to without the state -/
theorem pure_same {P : Program} {ev : Ev} {σ : St} {o : Oper} {out : Out} (hk : isHeavy o = false) (hr : isRead o = false) (h : opV P ev σ o = some out) (σ' : St) : opV P ev σ' o = some out := by
  obtain ⟨dst, op, type, pos, after, guard⟩ := o
  unfold isHeavy at hk; unfold isRead at hr
  simp only at hk hr
  cases op <;> first
    | exact h
    | (simp [kindOf] at hk hr; done)
    | skip
  case makeMap t r => cases r <;> exact h
  case call c =>
    obtain ⟨callee, args, argTypes⟩ := c
    cases callee with
    | value f => simp [kindOf] at hk
    | invoke r m => simp [kindOf] at hk
    | builtin b =>
      cases b <;> first
        | (simp [kindOf] at hk hr; done)
        | exact h
theorem new_same {P : Program} {ev : Ev} {σ : St} {o : Oper} {mk : Mk} {body : Body} (hk : isHeavy o = false) (h : opV P ev σ o = some (.new mk body)) (σ' : St) : opV P ev σ' o = some (.new mk body) := by
  by_cases hr : isRead o = false
  · exact pure_same hk hr h σ'
  · obtain ⟨dst, op, type, pos, after, guard⟩ := o
    unfold isRead at hr
    simp only [Bool.not_eq_false] at hr
    cases op <;> simp only [kindOf] at hr <;> (try (simp at hr; done))
    case load t x =>
      unfold opV at h
      simp only at h
      obtain ⟨p, _, h⟩ := ev1_some h
      obtain ⟨v, _, e⟩ := vOut_some h
      cases e
    case lookup t x k ok =>
      unfold opV at h
      simp only at h
      obtain ⟨p, _, h⟩ := ev1_some h
      obtain ⟨q, _, h⟩ := ev1_some h
      obtain ⟨v, _, e⟩ := vOut_some h
      cases e
    case convert s d x =>
      unfold opV at h ⊢
      simp only at h ⊢
      obtain ⟨p, hp, h⟩ := ev1_some h
      rw [hp]
      show convV P σ' s d p = _
      unfold convV at h ⊢
      split at h <;> first
        | exact h
        | (split at h <;> first
            | exact h
            | (split at h <;> first
                | (cases h; done)
                | (split at h <;> cases h)))
    case call c =>
      obtain ⟨callee, args, argTypes⟩ := c
      cases callee with
      | value f => simp [kindOf] at hr
      | invoke r m => simp [kindOf] at hr
      | builtin b =>
        cases b <;> first
          | (simp [kindOf] at hr; done)
          | skip
        unfold opV at h
        simp only at h
        cases hvs : evals ev args.toList with
        | none => rw [hvs] at h; cases h
        | some vs =>
          rw [hvs] at h
          simp only [builtinV] at h
          split at h
          · obtain ⟨v, _, e⟩ := vOut_some h
            cases e
          · cases h
theorem beqAddr_eq {a b : Addr} (h : beqAddr a b = true) : a = b := by
  unfold beqAddr at h
  simp only [Bool.and_eq_true, Nat.beq_eq, Option.isNone_iff_eq_none] at h
  obtain ⟨⟨⟨h1, h2⟩, h3⟩, h4⟩ := h
  cases a; cases b; simp_all
theorem beqOpt_eq {a b : Option Addr} (h : beqOpt a b = true) : a = b := by
  cases a <;> cases b <;> simp only [beqOpt] at h <;> first | rfl | (cases h; done) | rw [beqAddr_eq h]
theorem flatEq_eq {u v : Value} (h : flatEq u v = true) : u = v := by
  unfold flatEq at h
  split at h
  · rw [beq_iff_eq.1 h]
  · simp only [Bool.and_eq_true, beq_iff_eq] at h; rw [h.1, h.2]
  · rw [bytesEq_iff, beq_iff_eq] at h; rw [ByteArray.ext (Array.ext' h)]
  · rw [beqOpt_eq h]
  · simp only [Bool.and_eq_true, Nat.beq_eq] at h; rw [beqOpt_eq h.1.1, h.1.2, h.2]
  · rfl
  · rw [Nat.beq_eq] at h; rw [h]
  · rfl
  · rfl
  · cases h
theorem flatEqs_eq : ∀ {u v : List Value}, flatEqs u v = true → u = v
  | [], [], _ => rfl
  | x :: u, y :: v, h => by
    simp only [flatEqs, Bool.and_eq_true] at h
    rw [flatEq_eq h.1, flatEqs_eq h.2]
  | [], _ :: _, h => by cases h
  | _ :: _, [], h => by cases h
theorem valueEq_eq {u v : Value} (h : valueEq u v = true) : u = v := by
  unfold valueEq at h
  split at h
  · rw [Array.ext' (flatEqs_eq h)]
  · rw [Array.ext' (flatEqs_eq h)]
  · exact flatEq_eq h
theorem seenSame_spec {P : Program} {ev : Ev} {o : Oper} {m : Nat} {v : Value} : ∀ {hist : List (Nat × St)}, seenSame P ev o m v hist = true → ∀ h σ, (h, σ) ∈ hist → Nat.testBit m h = true ∨ opV P ev σ o = some (.val v)
  | [], _, _, _, hm => by simp at hm
  | (h0, σ0) :: rest, hs, h, σ, hm => by
    simp only [seenSame, Bool.and_eq_true] at hs
    rcases List.mem_cons.1 hm with e | hm
    · cases e
      have h1 := hs.1
      simp only [Bool.cond_eq_ite] at h1
      split at h1
      · exact .inl ‹_›
      · right
        split at h1
        · rename_i u hu; rw [hu, valueEq_eq h1]
        · cases h1
    · exact seenSame_spec hs.2 h σ hm
/-! ### the abstract run, step by step -/
section
variable {P : Program} {X : Prims} {call : Caller} {all : List Oper} {base : Nat}
/-- What one step has done: the operation, what it wrote. -/
structure DStep (P : Program) (X : Prims) (call : Caller) (all : List Oper) (base i m : Nat) (s s' : DS) (o : Oper) (v : Value) : Prop where
  op : all[i]? = some o
  put : s.a.put o.dst v = some s'.a
  heavy : isHeavy o = true → s'.b = s'.σ ∧ s'.hist = (i, s.b) :: s.hist
  light : isHeavy o = false → s'.b = s.b ∧ s'.hist = bif isMake o then noteF (s'.σ.get (base + i)) (base + i) s.hist else s.hist
  kind : (wantedV all s.a o = some false ∧ s'.σ = s.σ ∧ v = undefV) ∨ (wantedV all s.a o = some true ∧ (
    (isHeavy o = false ∧ opV P s.a.eval s.σ o = some (.val v) ∧ s'.σ = s.σ ∧ (isRead o = true → seenSame P s.a.eval o m v s.hist = true)) ∨
    (isHeavy o = false ∧ ∃ mk body, opV P s.a.eval s.σ o = some (.new mk body) ∧ s.σ.get (base + i) = none ∧ s'.σ = { s.σ with heap := s.σ.heap.put (base + i) (some { body, chain := [], shut := false }) } ∧ v = mk.val (base + i)) ∨
    (isHeavy o = true ∧ (opV P s.a.eval s.σ o = some (.upd v s'.σ) ∨ ∃ f args, opV P s.a.eval s.σ o = some (.enter f args) ∧ ((X.ext f args = some v ∧ s'.σ = s.σ) ∨ (X.ext f args = none ∧ call f args s.σ = some (.ret v s'.σ)))))))
theorem on_spec {s s' : DS} {i : Nat} {o : Oper} {σ : St} {v : Value} (h : s.on base i o σ v = some s') : s.a.put o.dst v = some s'.a ∧ s'.σ = σ ∧ (isHeavy o = true → s'.b = s'.σ ∧ s'.hist = (i, s.b) :: s.hist) ∧ (isHeavy o = false → s'.b = s.b ∧ s'.hist = bif isMake o then noteF (s'.σ.get (base + i)) (base + i) s.hist else s.hist) := by
  unfold DS.on at h
  cases hp : s.a.put o.dst v with
  | none => rw [hp] at h; cases h
  | some a' =>
    rw [hp] at h
    simp only [Option.some.injEq] at h
    cases hh : isHeavy o with
    | true => rw [hh] at h; subst h; exact ⟨rfl, rfl, fun _ => ⟨rfl, rfl⟩, (fun e => by cases e)⟩
    | false => rw [hh] at h; subst h; exact ⟨rfl, rfl, (fun e => by cases e), fun _ => ⟨rfl, rfl⟩⟩
theorem stepD_spec {i m : Nat} {s s' : DS} (h : stepD P X call all base i m s = some s') : ∃ o v, DStep P X call all base i m s s' o v := by
  unfold stepD at h
  cases ho : all[i]? with
  | none => rw [ho] at h; cases h
  | some o =>
    rw [ho] at h
    simp only at h
    cases hw : wantedV all s.a o with
    | none => rw [hw] at h; cases h
    | some b =>
      rw [hw] at h
      cases b with
      | false =>
        obtain ⟨a1, a2, a3, a4⟩ := on_spec h
        exact ⟨o, undefV, ho, a1, a3, a4, .inl ⟨hw, a2, rfl⟩⟩
      | true =>
        simp only at h
        cases hop : opV P s.a.eval s.σ o with
        | none => rw [hop] at h; cases h
        | some out =>
          rw [hop] at h
          cases out with
          | val v =>
            simp only [Bool.cond_eq_ite] at h
            split at h
            case isFalse => cases h
            rename_i hc
            simp only [Bool.and_eq_true, Bool.not_eq_eq_eq_not, Bool.not_true] at hc
            obtain ⟨a1, a2, a3, a4⟩ := on_spec h
            refine ⟨o, v, ho, a1, a3, a4, .inr ⟨hw, .inl ⟨hc.1, hop, a2, fun hr => ?_⟩⟩⟩
            have := hc.2; unfold readOk at this; rw [hr] at this; exact this
          | new mk body =>
            simp only [Bool.cond_eq_ite] at h
            split at h
            · cases h
            rename_i hc
            simp only [Bool.or_eq_true, not_or, Bool.not_eq_true, Option.isSome_eq_false_iff, Option.isNone_iff_eq_none] at hc
            obtain ⟨a1, a2, a3, a4⟩ := on_spec h
            exact ⟨o, _, ho, a1, a3, a4, .inr ⟨hw, .inr (.inl ⟨hc.1, mk, body, hop, hc.2, a2, rfl⟩)⟩⟩
          | upd v σ' =>
            simp only [Bool.cond_eq_ite] at h
            split at h
            case isFalse => cases h
            rename_i hc
            obtain ⟨a1, a2, a3, a4⟩ := on_spec h
            exact ⟨o, v, ho, a1, a3, a4, .inr ⟨hw, .inr (.inr ⟨hc, .inl (by rw [a2]; exact hop)⟩)⟩⟩
          | enter f args =>
            simp only [Bool.cond_eq_ite] at h
            split at h
            case isFalse => cases h
            rename_i hc
            cases hx : X.ext f args with
            | some v =>
              rw [hx] at h
              obtain ⟨a1, a2, a3, a4⟩ := on_spec h
              exact ⟨o, v, ho, a1, a3, a4, .inr ⟨hw, .inr (.inr ⟨hc, .inr ⟨f, args, hop, .inl ⟨hx, a2⟩⟩⟩)⟩⟩
            | none =>
              rw [hx] at h
              simp only at h
              split at h
              · rename_i v σ' hcl
                obtain ⟨a1, a2, a3, a4⟩ := on_spec h
                exact ⟨o, v, ho, a1, a3, a4, .inr ⟨hw, .inr (.inr ⟨hc, .inr ⟨f, args, hop, .inr ⟨hx, by rw [a2]; exact hcl⟩⟩⟩)⟩⟩
              · cases h
          | _ => cases h
/-- The whole run: a state at each place. -/
structure DRun (P : Program) (X : Prims) (call : Caller) (all : List Oper) (base : Nat) (plan : List (Nat × Nat)) (S : Nat → DS) (V : Nat → Value) : Prop where
  step : ∀ (q i m : Nat), plan[q]? = some (i, m) → ∃ o, DStep P X call all base i m (S q) (S (q + 1)) o (V q)
theorem runD_spec : ∀ (plan : List (Nat × Nat)) (s s' : DS), runD P X call all base plan s = some s' → ∃ (S : Nat → DS) (V : Nat → Value), S 0 = s ∧ S plan.length = s' ∧ DRun P X call all base plan S V
  | [], s, s', h => by simp [runD] at h; subst h; exact ⟨fun _ => s, fun _ => undefV, rfl, rfl, ⟨fun q i m h => by simp at h⟩⟩
  | (i, m) :: rest, s, s', h => by
    simp only [runD] at h
    cases hs : stepD P X call all base i m s with
    | none => rw [hs] at h; cases h
    | some s1 =>
      rw [hs] at h
      obtain ⟨S, V, h1, h2, h3⟩ := runD_spec rest s1 s' h
      obtain ⟨o, v, hd⟩ := stepD_spec hs
      refine ⟨fun q => match q with | 0 => s | q + 1 => S q, fun q => match q with | 0 => v | q + 1 => V q, rfl, h2, ⟨fun q i' m' hq => ?_⟩⟩
      cases q with
      | zero => simp at hq; obtain ⟨rfl, rfl⟩ := hq; exact ⟨o, by show DStep P X call all base i m s (S 0) o v; rw [h1]; exact hd⟩
      | succ q => exact h3.step q i' m' (by simpa using hq)
end
section
variable {P : Program} {X : Prims} {call : Caller} {all : List Oper} {base : Nat} {ms : List Nat} {plan : List (Nat × Nat)} {S : Nat → DS} {V : Nat → Value}
/-- What a slot holds at a place of the abstract run. -/
theorem look_at (hP : Plan all ms plan) (hR : DRun P X call all base plan S V) (t : Nat) : ∀ q, q ≤ plan.length →
    (∀ (q' i m : Nat) (o : Oper), q' < q → plan[q']? = some (i, m) → all[i]? = some o → o.dst = some t → (S q).a.look t = V q') ∧
    ((∀ (q' i m : Nat) (o : Oper), q' < q → plan[q']? = some (i, m) → all[i]? = some o → o.dst ≠ some t) → (S q).a.look t = (S 0).a.look t)
  | 0, _ => ⟨fun q' _ _ _ h => by omega, fun _ => rfl⟩
  | q + 1, hq => by
    obtain ⟨ih1, ih2⟩ := look_at hP hR t q (by omega)
    obtain ⟨i0, m0⟩ : Nat × Nat := plan[q]'(by omega)
    have hx : ∃ i m, plan[q]? = some (i, m) := ⟨_, _, List.getElem?_eq_getElem (by omega)⟩
    obtain ⟨i, m, hx⟩ := hx
    obtain ⟨o, hd⟩ := hR.step q i m hx
    have put : (S (q + 1)).a.look t = if o.dst = some t then V q else (S q).a.look t := by
      have hp := hd.put
      cases ho : o.dst with
      | none => rw [ho] at hp; simp [AM.Act.put] at hp; rw [← hp]; simp
      | some d =>
        rw [ho] at hp
        simp only [AM.Act.put, Bool.cond_eq_ite] at hp
        split at hp
        · cases hp' : (S (q + 1)).a with
          | mk tm sz df =>
            rw [hp'] at hp
            simp only [Option.some.injEq] at hp
            rw [← hp, look_put]
            by_cases e : t = d
            · subst e; simp
            · rw [if_neg e, if_neg (fun h => e (by cases h; rfl))]
        · cases hp
    constructor
    · intro q' i' m' o' hlt h1 h2 h3
      rw [put]
      by_cases e : q' = q
      · subst e; rw [hx] at h1; cases h1; rw [hd.op] at h2; cases h2; rw [if_pos h3]
      · have hne : i ≠ i' := by
          rintro rfl
          obtain ⟨_, _, _, h4, _⟩ := hP.at_ q i m hx
          exact h4 q' m' (by omega) h1
        rw [if_neg (fun h => hP.once i i' o o' t hne hd.op h2 h3 h)]
        exact ih1 q' i' m' o' (by omega) h1 h2 h3
    · intro hno
      rw [put, if_neg (hno q i m o (by omega) hx hd.op)]
      exact ih2 fun q' i' m' o' h1 => hno q' i' m' o' (by omega)
theorem size_at (hR : DRun P X call all base plan S V) : ∀ q, q ≤ plan.length → (S q).a.size = (S 0).a.size ∧ (S q).a.defers = (S 0).a.defers
  | 0, _ => ⟨rfl, rfl⟩
  | q + 1, hq => by
    obtain ⟨h1, h2⟩ := size_at hR q (by omega)
    obtain ⟨i, m, hx⟩ : ∃ i m, plan[q]? = some (i, m) := ⟨_, _, List.getElem?_eq_getElem (by omega)⟩
    obtain ⟨o, hd⟩ := hR.step q i m hx
    obtain ⟨a, b⟩ := put_defers hd.put
    exact ⟨b.trans h1, a.trans h2⟩
/-- What was there behind the last heavy operation is there still. -/
theorem base_at (hR : DRun P X call all base plan S V) (h0 : (S 0).b = (S 0).σ) : ∀ q, q ≤ plan.length → ∀ j blk, (S q).b.get j = some blk → (S q).σ.get j = some blk
  | 0, _, j, blk, h => by rw [h0] at h; exact h
  | q + 1, hq, j, blk, h => by
    obtain ⟨i, m, hx⟩ : ∃ i m, plan[q]? = some (i, m) := ⟨_, _, List.getElem?_eq_getElem (by omega)⟩
    obtain ⟨o, hd⟩ := hR.step q i m hx
    cases hh : isHeavy o with
    | true => rw [(hd.heavy hh).1] at h; exact h
    | false =>
      rw [(hd.light hh).1] at h
      have ih := base_at hR h0 q (by omega) j blk h
      rcases hd.kind with ⟨_, e, _⟩ | ⟨_, ⟨_, _, e, _⟩ | ⟨_, mk, body, _, hn, e, _⟩ | ⟨h', _⟩⟩
      · rw [e]; exact ih
      · rw [e]; exact ih
      · rw [e, St.get_put]
        have : j ≠ base + i := fun e' => by rw [e', hn] at ih; cases ih
        rw [if_neg this]; exact ih
      · rw [hh] at h'; cases h'
/-- Ahead of each heavy operation the state is kept. -/
theorem isMake_wanted {o : Oper} (h : isMake o = true) (a : AM.Act) : wantedV all a o = some true := by
  unfold isMake at h
  unfold wantedV
  split at h
  · rename_i hg; rw [hg]
  · cases h
theorem isMake_new {ev : Ev} {σ : St} {o : Oper} (h : isMake o = true) {v : Value} (hv : opV P ev σ o = some (.val v)) : False := by
  unfold isMake at h
  split at h
  · rename_i hk _
    unfold opV at hv
    cases hop : o.op <;> rw [hop] at hk hv <;> first
      | (simp [kindOf] at hk; done)
      | skip
    case alloc t =>
      simp only [allocV] at hv
      split at hv <;> cases hv
    case box t x =>
      simp only [boxV] at hv
      split at hv <;> cases hv
    case buildSlice t len ps =>
      simp only [buildSliceV, Bool.cond_eq_ite] at hv
      repeat' (first | (cases hv; done) | split at hv)
    case makeMap t k =>
      cases k <;> simp at hv
    case makeSlice t x y =>
      simp only [ev1, makeSliceV, Bool.cond_eq_ite] at hv
      repeat' (first | (cases hv; done) | split at hv)
    case call c =>
      obtain ⟨callee, args, _⟩ := c
      cases callee with
      | builtin b => cases b <;> simp [kindOf] at hk
      | _ => simp [kindOf] at hk
  · cases h
/-- A block that a place between has made. -/
def MadeAt (P : Program) (all : List Oper) (base : Nat) (plan : List (Nat × Nat)) (S : Nat → DS) (q j : Nat) (blk : Blk) : Prop :=
  ∃ i m o mk body, plan[q]? = some (i, m) ∧ j = base + i ∧ all[i]? = some o ∧ wantedV all (S q).a o = some true ∧ isHeavy o = false ∧ opV P (S q).a.eval (S q).σ o = some (.new mk body) ∧ blk = { body, chain := [], shut := false }
theorem noteF_mem {x : Option Blk} {k h : Nat} {τ : St} : ∀ {l : List (Nat × St)}, (h, τ) ∈ l → (h, noteS x k τ) ∈ noteF x k l
  | [], hm => by cases hm
  | (h0, τ0) :: l, hm => by
    rcases List.mem_cons.1 hm with e | hm
    · cases e; exact List.mem_cons_self
    · exact List.mem_cons_of_mem _ (noteF_mem hm)
theorem isMake_light {o : Oper} (h : isMake o = true) : isHeavy o = false := by
  unfold isMake at h
  unfold isHeavy
  split at h
  · rename_i hk _; rw [hk]
  · cases h
theorem hist_at (hR : DRun P X call all base plan S V) {r i m : Nat} {o : Oper} (hr : plan[r]? = some (i, m)) (ho : all[i]? = some o) (hh : isHeavy o = true) : ∀ q, r < q → q ≤ plan.length →
    ∃ τ, (i, τ) ∈ (S q).hist ∧ ∀ j blk, τ.get j = some blk → (S r).b.get j = some blk ∨ ∃ q', r < q' ∧ q' < q ∧ MadeAt P all base plan S q' j blk
  | 0, h, _ => by omega
  | q + 1, h, hq => by
    obtain ⟨i', m', hx⟩ : ∃ i m, plan[q]? = some (i, m) := ⟨_, _, List.getElem?_eq_getElem (by omega)⟩
    obtain ⟨o', hd⟩ := hR.step q i' m' hx
    by_cases e : r = q
    · subst e
      rw [hr] at hx; cases hx
      rw [hd.op] at ho; cases ho
      exact ⟨_, by rw [(hd.heavy hh).2]; exact List.mem_cons_self, fun j blk h => .inl h⟩
    · obtain ⟨τ, ih, hτ⟩ := hist_at hR hr ho hh q (by omega) (by omega)
      have later : ∀ j blk, τ.get j = some blk → (S r).b.get j = some blk ∨ ∃ q', r < q' ∧ q' < q + 1 ∧ MadeAt P all base plan S q' j blk := by
        intro j blk hj
        rcases hτ j blk hj with h1 | ⟨q', h1, h2, h3⟩
        · exact .inl h1
        · exact .inr ⟨q', h1, by omega, h3⟩
      cases hh' : isHeavy o' with
      | true => exact ⟨τ, by rw [(hd.heavy hh').2]; exact List.mem_cons_of_mem _ ih, later⟩
      | false =>
        have hl := (hd.light hh').2
        cases hm : isMake o' with
        | false => rw [hm, cond_false] at hl; exact ⟨τ, by rw [hl]; exact ih, later⟩
        | true =>
          rw [hm, cond_true] at hl
          refine ⟨noteS ((S (q + 1)).σ.get (base + i')) (base + i') τ, by rw [hl]; exact noteF_mem ih, fun j blk hj => ?_⟩
          unfold noteS at hj
          rw [St.get_put] at hj
          by_cases ej : j = base + i'
          · rw [if_pos ej] at hj
            rcases hd.kind with ⟨hw, _⟩ | ⟨hw, ⟨_, hv, _⟩ | ⟨_, mk, body, hop, _, hs, _⟩ | ⟨hhv, _⟩⟩
            · rw [isMake_wanted hm] at hw; cases hw
            · exact (isMake_new hm hv).elim
            · rw [hs, St.get_put, if_pos rfl] at hj
              cases hj
              exact .inr ⟨q, by omega, Nat.lt_succ_self _, i', m', o', mk, body, hx, ej, hd.op, hw, hh', hop, rfl⟩
            · rw [hhv] at hh'; cases hh'
          · rw [if_neg ej] at hj; exact later j blk hj
theorem base_between (hR : DRun P X call all base plan S V) {p : Nat} : ∀ r, p ≤ r → r ≤ plan.length → (∀ q i m o, p ≤ q → q < r → plan[q]? = some (i, m) → all[i]? = some o → isHeavy o = false) → (S r).b = (S p).b
  | 0, h, _, _ => by rw [show p = 0 by omega]
  | r + 1, h, hr, hl => by
    by_cases e : p = r + 1
    · rw [e]
    · obtain ⟨i, m, hx⟩ : ∃ i m, plan[r]? = some (i, m) := ⟨_, _, List.getElem?_eq_getElem (by omega)⟩
      obtain ⟨o, hd⟩ := hR.step r i m hx
      rw [(hd.light (hl r i m o (by omega) (by omega) hx hd.op)).1]
      exact base_between hR r (by omega) (by omega) fun q i m o h1 h2 => hl q i m o h1 (by omega)
end
end Go.AM
