import Derived.Test.YtmgpnomphfeoiaaGreatDoorAmRun
import Derived.Orders
set_option linter.all false
namespace Go.AM
/-! ### what the plan of a region tells -/
theorem edgesOk_spec {i : Nat} : ∀ {es : List Edge}, edgesOk i es = true → ∀ e ∈ es, Region.binds .any e = true → e.on < i
  | [], _, _, h, _ => by simp at h
  | e0 :: es, h, e, hm, hb => by
    simp only [edgesOk, Bool.and_eq_true] at h
    rcases List.mem_cons.1 hm with rfl | hm
    · have := h.1; rw [hb] at this; simpa using this
    · exact edgesOk_spec h.2 e hm hb
theorem bitOf_test (i j : Nat) : Nat.testBit (bitOf i) j = decide (i = j) := by
  unfold bitOf
  show Nat.testBit (1 <<< i) j = _
  rw [Nat.one_shiftLeft, Nat.testBit_two_pow]
theorem lor_test (a b j : Nat) : Nat.testBit (Nat.lor a b) j = (Nat.testBit a j || Nat.testBit b j) := Nat.testBit_or a b j
theorem maskOf_test (ms : List Nat) (j : Nat) : ∀ (es : List Edge), Nat.testBit (maskOf ms es) j = true ↔ ∃ e ∈ es, Region.binds .any e = true ∧ (j = e.on ∨ Nat.testBit (ms.getD e.on 0) j = true)
  | [] => by simp [maskOf]
  | e :: es => by
    have ih := maskOf_test ms j es
    simp only [maskOf, Bool.cond_eq_ite]
    by_cases hb : Region.binds .any e = true
    · rw [if_pos hb, lor_test, lor_test, bitOf_test]
      simp only [Bool.or_eq_true, decide_eq_true_eq, ih, List.mem_cons, exists_eq_or_imp, hb, true_and]
      constructor
      · rintro ((h | h) | h)
        · exact .inl (.inl h.symm)
        · exact .inl (.inr h)
        · exact .inr h
      · rintro ((h | h) | h)
        · exact .inl (.inl h.symm)
        · exact .inl (.inr h)
        · exact .inr h
    · rw [if_neg hb, ih]
      simp only [List.mem_cons, exists_eq_or_imp, hb, Bool.false_eq_true, false_and, false_or]
theorem maskOf_congr (ms ms' : List Nat) : ∀ (es : List Edge) (i : Nat), edgesOk i es = true → (∀ k, k < i → ms.getD k 0 = ms'.getD k 0) → maskOf ms es = maskOf ms' es
  | [], _, _, _ => rfl
  | e :: es, i, h, hk => by
    have ih := maskOf_congr ms ms' es i (by simp only [edgesOk, Bool.and_eq_true] at h; exact h.2) hk
    simp only [maskOf, Bool.cond_eq_ite]
    by_cases hb : Region.binds .any e = true
    · rw [if_pos hb, if_pos hb, hk e.on (edgesOk_spec h e List.mem_cons_self hb), ih]
    · rw [if_neg hb, if_neg hb, ih]
theorem masksF_spec : ∀ (os : List Oper) (i : Nat) (ms0 ms : List Nat), masksF os i ms0 = some ms → ms0.length = i →
    ms.length = i + os.length ∧ (∃ t, ms = ms0 ++ t) ∧ ∀ (k : Nat) (o : Oper), os[k]? = some o → edgesOk (i + k) o.after.toList = true ∧ ms[i + k]? = some (maskOf ms o.after.toList)
  | [], i, ms0, ms, h, hl => by simp [masksF] at h; subst h; exact ⟨by simpa using hl, ⟨[], by simp⟩, fun k o h => by simp at h⟩
  | o :: os, i, ms0, ms, h, hl => by
    simp only [masksF, Bool.cond_eq_ite] at h
    split at h
    case isFalse => cases h
    rename_i he
    obtain ⟨h1, ⟨t, rfl⟩, h3⟩ := masksF_spec os (i + 1) _ ms h (by simp [hl])
    refine ⟨by simp at h1 ⊢; omega, ⟨maskOf ms0 o.after.toList :: t, by simp⟩, fun k o' hk => ?_⟩
    cases k with
    | zero =>
      simp at hk; subst hk
      refine ⟨he, ?_⟩
      have : maskOf (ms0 ++ [maskOf ms0 o.after.toList] ++ t) o.after.toList = maskOf ms0 o.after.toList := by
        refine maskOf_congr _ _ _ i he fun k hk => ?_
        rw [List.getD_eq_getElem?_getD, List.getD_eq_getElem?_getD, List.append_assoc, List.getElem?_append_left (by omega)]
      rw [this, Nat.add_zero, List.append_assoc, List.getElem?_append_right (by omega), hl]
      simp
    | succ k =>
      have := h3 k o' (by simpa using hk)
      rw [show i + (k + 1) = i + 1 + k by omega]
      exact this
/-- The masks: what must come before, wholly. -/
structure Masks (all : List Oper) (ms : List Nat) : Prop where
  len : ms.length = all.length
  edge : ∀ (i : Nat) (o : Oper), all[i]? = some o → ∀ e ∈ o.after.toList, Region.binds .any e = true → e.on < i
  bit : ∀ (i : Nat) (o : Oper), all[i]? = some o → ∀ j, Nat.testBit (ms.getD i 0) j = true ↔ ∃ e ∈ o.after.toList, Region.binds .any e = true ∧ (j = e.on ∨ Nat.testBit (ms.getD e.on 0) j = true)
theorem masks_of {all : List Oper} {ms : List Nat} (h : masksF all 0 [] = some ms) : Masks all ms := by
  obtain ⟨h1, _, h3⟩ := masksF_spec all 0 [] ms h rfl
  simp only [Nat.zero_add] at h1 h3
  refine ⟨h1, fun i o ho e he hb => edgesOk_spec (h3 i o ho).1 e he hb, fun i o ho j => ?_⟩
  rw [List.getD_eq_getElem?_getD, (h3 i o ho).2, Option.getD_some]
  exact maskOf_test ms j _
/-- A set that is closed under the edges is closed under the masks. -/
theorem Masks.closed {all : List Oper} {ms : List Nat} (M : Masks all ms) {D : Nat → Prop} (hD : ∀ i o, D i → all[i]? = some o → ∀ e ∈ o.after.toList, Region.binds .any e = true → D e.on) :
    ∀ (i : Nat) (o : Oper), all[i]? = some o → (∀ e ∈ o.after.toList, Region.binds .any e = true → D e.on) → ∀ j, Nat.testBit (ms.getD i 0) j = true → D j := by
  intro i
  induction i using Nat.strongRecOn with
  | _ i ih =>
    intro o ho he j hj
    obtain ⟨e, h1, h2, h3⟩ := (M.bit i o ho j).1 hj
    have hlt := M.edge i o ho e h1 h2
    have hin := he e h1 h2
    rcases h3 with rfl | h3
    · exact hin
    · have hlen : i < all.length := (List.getElem?_eq_some_iff.1 ho).1
      have ho' : all[e.on]? = some (all[e.on]'(by omega)) := List.getElem?_eq_getElem _
      exact ih e.on hlt _ ho' (hD e.on _ hin ho') j h3
theorem Masks.lt {all : List Oper} {ms : List Nat} (M : Masks all ms) {i : Nat} {o : Oper} (ho : all[i]? = some o) {j : Nat} (hj : Nat.testBit (ms.getD i 0) j = true) : j < i := by
  have := M.closed (D := fun j => j < i) (fun k o' hk ho' e he hb => Nat.lt_trans (M.edge k o' ho' e he hb) hk) i o ho (fun e he hb => M.edge i o ho e he hb) j hj
  exact this
theorem sub_test {m n : Nat} (h : sub m n = true) {j : Nat} (hj : Nat.testBit m j = true) : Nat.testBit n j = true := by
  unfold sub at h
  rw [Nat.beq_eq] at h
  have := congrArg (fun x => Nat.testBit x j) h
  rw [show Nat.land m n = m &&& n from rfl, Nat.testBit_and, hj] at this
  simpa using this
/-- What checkOrder has looked at, place by place. -/
theorem checkOrder_spec {all : List Oper} {ms : List Nat} : ∀ (plan : List (Nat × Nat)) (seen fin : Nat), checkOrder all ms plan seen = some fin →
    (∀ j, Nat.testBit fin j = true ↔ Nat.testBit seen j = true ∨ ∃ (q m : Nat), plan[q]? = some (j, m)) ∧
    ∀ (q i m : Nat), plan[q]? = some (i, m) → (∃ o, all[i]? = some o ∧ ms[i]? = some m ∧
      (¬ Nat.testBit seen i = true ∧ ∀ (q' m' : Nat), q' < q → plan[q']? ≠ some (i, m')) ∧
      (∀ j, Nat.testBit m j = true → Nat.testBit seen j = true ∨ ∃ (q' m' : Nat), q' < q ∧ plan[q']? = some (j, m')) ∧
      (isHeavy o = true → ∀ j, (Nat.testBit seen j = true ∨ ∃ (q' m' : Nat), q' < q ∧ plan[q']? = some (j, m')) → Nat.testBit m j = true))
  | [], seen, fin, h => by simp [checkOrder] at h; subst h; simp
  | (i0, m0) :: rest, seen, fin, h => by
    simp only [checkOrder] at h
    split at h
    case h_2 => cases h
    rename_i o m' ho hm
    simp only [Bool.cond_eq_ite] at h
    split at h
    case isFalse => cases h
    rename_i hc
    simp only [Bool.and_eq_true, Nat.beq_eq, Bool.not_eq_eq_eq_not, Bool.not_true] at hc
    obtain ⟨⟨⟨rfl, hns⟩, hsub⟩, hheavy⟩ := hc
    obtain ⟨ih1, ih2⟩ := checkOrder_spec rest _ fin h
    have seen' : ∀ j, Nat.testBit (Nat.lor seen (bitOf i0)) j = true ↔ Nat.testBit seen j = true ∨ i0 = j := by
      intro j; rw [lor_test, bitOf_test]; simp
    refine ⟨fun j => ?_, fun q i m hq => ?_⟩
    · rw [ih1 j, seen']
      constructor
      · rintro ((h1 | rfl) | ⟨q, m, hq⟩)
        · exact .inl h1
        · exact .inr ⟨0, m0, rfl⟩
        · exact .inr ⟨q + 1, m, by simpa using hq⟩
      · rintro (h1 | ⟨q, m, hq⟩)
        · exact .inl (.inl h1)
        · cases q with
          | zero => simp at hq; exact .inl (.inr hq.1)
          | succ q => exact .inr ⟨q, m, by simpa using hq⟩
    · cases q with
      | zero =>
        simp at hq
        obtain ⟨rfl, rfl⟩ := hq
        refine ⟨o, ho, hm, ⟨by rw [hns]; simp, fun q' m' hq' => by omega⟩, fun j hj => .inl (sub_test hsub hj), fun hh j hj => ?_⟩
        unfold heavyOk at hheavy
        rw [hh] at hheavy
        simp only [cond_true, Nat.beq_eq] at hheavy
        rcases hj with hj | ⟨q', _, hq', _⟩
        · rw [hheavy]; exact hj
        · omega
      | succ q =>
        obtain ⟨o', h1, h2, ⟨h3, h4⟩, h5, h6⟩ := ih2 q i m (by simpa using hq)
        have hne : ¬ (Nat.testBit seen i = true ∨ i0 = i) := fun hh => h3 ((seen' i).2 hh)
        refine ⟨o', h1, h2, ⟨fun hh => hne (.inl hh), fun q' m' hq' he => ?_⟩, fun j hj => ?_, fun hh j hj => ?_⟩
        · cases q' with
          | zero => simp at he; exact hne (.inr he.1)
          | succ q' => exact h4 q' m' (by omega) (by simpa using he)
        · rcases h5 j hj with h | ⟨q', m', hq', he⟩
          · rcases (seen' j).1 h with h | rfl
            · exact .inl h
            · exact .inr ⟨0, m0, by omega, rfl⟩
          · exact .inr ⟨q' + 1, m', by omega, by simpa using he⟩
        · refine h6 hh j ?_
          rcases hj with h | ⟨q', m', hq', he⟩
          · exact .inl ((seen' j).2 (.inl h))
          · cases q' with
            | zero => simp at he; exact .inl ((seen' j).2 (.inr he.1))
            | succ q' => exact .inr ⟨q', m', by omega, by simpa using he⟩
theorem slotOk_spec {ms : List Nat} {i j : Nat} {o p : Oper} {reads : List Nat} (h : slotOk ms i j o p reads = true) (hne : i ≠ j) {d : Nat} (hd : p.dst = some d) :
    (d ∈ reads → Nat.testBit (ms.getD i 0) j = true ∨ Nat.testBit (ms.getD j 0) i = true) ∧ o.dst ≠ some d := by
  unfold slotOk at h
  rw [hd] at h
  simp only [Bool.or_eq_true, Bool.and_eq_true, Nat.beq_eq, hne, false_or, Bool.cond_eq_ite] at h
  obtain ⟨h1, h2⟩ := h
  refine ⟨fun hr => ?_, fun he => ?_⟩
  · have : reads.elem d = true := by simpa using hr
    rw [if_pos this] at h1
    simpa using h1
  · rw [he] at h2; simp at h2
theorem slotsWith_spec {ms : List Nat} {i : Nat} {o : Oper} {reads : List Nat} : ∀ (ps : List Oper) (j : Nat), slotsWith ms i o reads ps j = true → ∀ k p, ps[k]? = some p → slotOk ms i (j + k) o p reads = true
  | [], _, _, _, _, h => by simp at h
  | p :: ps, j, h, k, p', hk => by
    simp only [slotsWith, Bool.and_eq_true] at h
    cases k with
    | zero => simp at hk; subst hk; exact h.1
    | succ k => have := slotsWith_spec ps (j + 1) h.2 k p' (by simpa using hk); rwa [show j + (k + 1) = j + 1 + k by omega]
theorem slotsOk_spec {all : List Oper} {ms : List Nat} : ∀ (os : List Oper) (i : Nat), slotsOk all ms os i = true → ∀ k o, os[k]? = some o → slotsWith ms (i + k) o (readsOf all o) all 0 = true
  | [], _, _, _, _, h => by simp at h
  | o :: os, i, h, k, o', hk => by
    simp only [slotsOk, Bool.and_eq_true] at h
    cases k with
    | zero => simp at hk; subst hk; exact h.1
    | succ k => have := slotsOk_spec os (i + 1) h.2 k o' (by simpa using hk); rwa [show i + (k + 1) = i + 1 + k by omega]
/-- The plan, place by place. -/
structure Plan (all : List Oper) (ms : List Nat) (plan : List (Nat × Nat)) : Prop where
  masks : Masks all ms
  at_ : ∀ (q i m : Nat), plan[q]? = some (i, m) → ∃ o, all[i]? = some o ∧ ms.getD i 0 = m ∧ (∀ (q' m' : Nat), q' < q → plan[q']? ≠ some (i, m')) ∧
      (∀ j, Nat.testBit m j = true → ∃ (q' m' : Nat), q' < q ∧ plan[q']? = some (j, m')) ∧ (isHeavy o = true → ∀ (j q' m' : Nat), q' < q → plan[q']? = some (j, m') → Nat.testBit m j = true)
  all_ : ∀ (i : Nat) (o : Oper), all[i]? = some o → ∃ (q m : Nat), plan[q]? = some (i, m)
  reads : ∀ (i j : Nat) (o p : Oper) (d : Nat), i ≠ j → all[i]? = some o → all[j]? = some p → p.dst = some d → d ∈ readsOf all o → Nat.testBit (ms.getD i 0) j = true ∨ Nat.testBit (ms.getD j 0) i = true
  once : ∀ (i j : Nat) (o p : Oper) (d : Nat), i ≠ j → all[i]? = some o → all[j]? = some p → p.dst = some d → o.dst ≠ some d
theorem plan_of {all : List Oper} {plan : List (Nat × Nat)} (h : planOf all = some plan) : ∃ ms, Plan all ms plan := by
  unfold planOf at h
  cases hm : masksF all 0 [] with
  | none => rw [hm] at h; cases h
  | some ms =>
    rw [hm] at h
    simp only at h
    cases hc : checkOrder all ms (orderOf all ms) 0 with
    | none => rw [hc] at h; cases h
    | some fin =>
      simp only [hc, Bool.cond_eq_ite] at h
      split at h
      case isFalse => cases h
      rename_i hh
      cases h
      simp only [Bool.and_eq_true, Nat.beq_eq] at hh
      obtain ⟨hfin, hslots⟩ := hh
      obtain ⟨c1, c2⟩ := checkOrder_spec _ _ _ hc
      have M := masks_of hm
      refine ⟨ms, M, fun q i m hq => ?_, fun i o ho => ?_, fun i j o p d hne ho hp hd hr => ?_, fun i j o p d hne ho hp hd => ?_⟩
      · obtain ⟨o, h1, h2, ⟨_, h3⟩, h4, h5⟩ := c2 q i m hq
        refine ⟨o, h1, by rw [List.getD_eq_getElem?_getD, h2]; rfl, h3, fun j hj => ?_, fun hh j q' m' hq' he => h5 hh j (.inr ⟨q', m', hq', he⟩)⟩
        rcases h4 j hj with h | h
        · simp at h
        · exact h
      · have hi : i < all.length := (List.getElem?_eq_some_iff.1 ho).1
        have : Nat.testBit fin i = true := by
          rw [hfin]
          show Nat.testBit (1 <<< all.length - 1) i = true
          rw [Nat.one_shiftLeft, Nat.testBit_two_pow_sub_one]
          simpa using hi
        rcases (c1 i).1 this with h | h
        · simp at h
        · exact h
      · have := slotsWith_spec all 0 (slotsOk_spec all 0 hslots i o ho) j p hp
        simp only [Nat.zero_add] at this
        exact (slotOk_spec this hne hd).1 hr
      · have := slotsWith_spec all 0 (slotsOk_spec all 0 hslots i o ho) j p hp
        simp only [Nat.zero_add] at this
        exact (slotOk_spec this hne hd).2
end Go.AM
