import Derived.Test.YtmgpnomphfeoiaaGreatDoorAmAppend
set_option linter.all false
namespace Go.AM
section
variable {P : Program} {B : Nat} {ρ : Ren} {σ : St} {w : World}
theorem run_append_fits {st xt e : TypeId} (hs : P.underlying st = some (.slice e)) {d : TypeDesc} (hx : P.underlying xt = some d) (hd : ∀ k, d ≠ .int k) {esz : Nat} (hsz : sizeOf P e = some esz)
    {base : Option Addr} {sLen sCap n : Nat} {x : Value} {new : List Value} (hlen : (Builtin.lenOf x).run P w = .ok n w) (hnew : (Builtin.firstCells esz n x).run P w = .ok ⟨new⟩ w) (hle : sLen + n ≤ sCap) (ty : TypeId) :
    (Builtin.append_ #[st, xt] ty #[.slice base sLen sCap, x]).run P w = (match base with
      | some a => (storeCells (a.add (sLen * esz)) new).run P w
      | none => .ok () w).andThen fun _ w' => .ok (.slice base (sLen + n) sCap) w' := by
  unfold Builtin.append_
  simp only [List.getElem?_toArray, List.getElem?_cons_zero, List.getElem?_cons_succ, Sem.run_bind, run_underlying hs, run_underlying hx, Result.andThen_ok, run_size hsz, Sem.run_pure]
  cases d <;> first
    | (exact absurd rfl (hd _))
    | (simp only [Bool.false_eq_true, if_false, Sem.run_bind, hlen, Result.andThen_ok, Sem.run_ite, if_pos hle, Sem.run_pure, Bool.not_false, if_true, hnew]
       cases base with
       | none => rfl
       | some a => simp only [Sem.run_bind, Sem.run_pure])
theorem growTag_some {o e : Nat} {tag : Option (Nat × Nat)} {tn : Nat × Nat} (h : growTag o e tag = some tn) : o = 0 ∧ tag = some tn ∧ tn = (e, 0) := by
  unfold growTag at h
  split at h
  · rename_i t
    simp only [Bool.cond_eq_ite] at h
    split at h
    · rename_i ht
      rw [Nat.beq_eq] at ht
      cases h; subst ht; exact ⟨rfl, rfl, rfl⟩
    · cases h
  · cases h
theorem run_appendV (hS : Sim B ρ σ w) (hB : B ≤ w.heap.size) {ts : List TypeId} {args : List Value} {v : Value} {σ' : St} (h : appendV P σ ts args = some (v, σ')) {args' : List Value} (ha : VRs ρ args args') (ty : TypeId) :
    Upd B ρ σ w ((Builtin.append_ ⟨ts⟩ ty ⟨args'⟩).run P w) v σ' := by
  have hL := hS.local
  unfold appendV at h
  split at h
  case h_2 => cases h
  rename_i st xt base len code x
  obtain ⟨s', l1, rfl, hs, h2⟩ := ha.inv_cons
  obtain ⟨x', l2, rfl, hx, h3⟩ := h2.inv_cons
  have := h3.inv_nil; subst this
  split at h
  case h_1 => cases h
  case h_3 => cases h
  rename_i e d hni he hxt
  have hst := elemOf_some he
  have hd : ∀ k, d ≠ .int k := fun k e => hni k e
  cases hsz : sizeOf P e with
  | none => rw [hsz] at h; cases h
  | some esz =>
  cases hi : P.info? e with
  | none => rw [hsz, hi] at h; cases h
  | some inf =>
  rw [hsz, hi] at h
  simp only at h
  cases hsrc : srcCells σ esz x with
  | none => rw [hsrc] at h; cases h
  | some nn =>
  obtain ⟨new, n⟩ := nn
  rw [hsrc] at h
  simp only [Bool.cond_eq_ite] at h
  split at h
  case isFalse => cases h
  rename_i hsm
  unfold roomOk at hsm
  simp only [Bool.and_eq_true] at hsm
  obtain ⟨⟨⟨hs1, hs2⟩, hs3⟩, hs4⟩ := hsm
  have b1 := isSmall_le hs1
  have b2 := isSmall_le hs2
  have b3 := isSmall_le hs3
  have hneed : len + n ≤ 1048576 := by
    have : len + n ≤ (len + n) * (esz + 1) := Nat.le_mul_of_pos_right _ (by omega)
    omega
  have hzs : zeroSize inf = some esz := by
    cases hz : zeroSize inf with
    | none => rw [hz] at hs4; cases hs4
    | some z => rw [hz] at hs4; simp only [Nat.beq_eq] at hs4; rw [hs4]
  obtain ⟨new', v1, v2, v3, v4'⟩ := run_src (P := P) hL hsrc hx
  have v4 := v4' w rfl
  have hnl : new'.length = n * esz := by rw [← v1.1]; exact v2
  split at h
  · -- it fits
    rename_i hfit
    rw [Nat.ble_eq] at hfit
    cases base with
    | none =>
      simp only at h; cases h
      cases hs with
      | nilSlice hk hj =>
        have e1 : n = 0 := by omega
        subst e1
        refine ⟨ρ, w, .slice none 0 0, ?_, .nilSlice hk hj, hS, Ext.refl _ _ _⟩
        have := run_append_fits (P := P) (w := w) hst hxt hd hsz (base := none) (sLen := 0) (sCap := 0) v3 v4 (by omega) ty
        simpa using this
    | some a =>
      simp only at h
      cases hw : σ.write a.block (a.off + len * esz) new with
      | none => rw [hw] at h; cases h
      | some σ1 =>
        rw [hw] at h; cases h
        cases hs with
        | slice hr hl hc hz hlit =>
          rename_i i o c p
          obtain ⟨r1, r2, r3⟩ := hS.write v1 hw hr
          have hcc : capOf code ≤ c := by unfold capOk at hc; split at hc <;> omega
          refine ⟨ρ, _, .slice (some ⟨p.b, p.s + o, none⟩) (len + n) c, ?_, .slice hr (by omega) hc hz hlit, r2, r3⟩
          have := run_append_fits (P := P) (w := w) hst hxt hd hsz (base := some ⟨p.b, p.s + o, none⟩) (sLen := len) (sCap := c) v3 v4 (by omega) ty
          rw [this]
          simp only [addr_add]
          rw [show p.s + o + len * esz = p.s + (o + len * esz) by omega, r1 P]; rfl
        | noSlice hk hr =>
          rename_i i o a'
          have e1 : n = 0 := by omega
          subst e1
          have e2 : new = [] := by simpa using v2
          subst e2
          simp [St.write] at hw; subst hw
          have := v1.inv_nil; subst this
          refine ⟨ρ, w, .slice (some a') 0 0, ?_, .noSlice hk hr, hS, Ext.refl _ _ _⟩
          have := run_append_fits (P := P) (w := w) hst hxt hd hsz (base := some a') (sLen := 0) (sCap := 0) v3 v4 (by omega) ty
          rw [this]; rfl
  · rename_i hnfit
    rw [Nat.ble_eq] at hnfit
    have hpos : 0 < len + n := by omega
    obtain ⟨j1, j2, j3⟩ := capOf_least' (e := esz) (c := len + n) (by omega)
    have newTag : ∀ {w' : World} {cc : Array Value}, World.more w w' (.cells cc e (0, 0)) → (0 : Nat) = 0 ∧ tagOk (e, 0) (w'.shape? w.heap.size) := fun {w' cc} hm => ⟨rfl, cc.size, by simp only [World.shape?, World.more_new hm], fun hh => absurd rfl hh⟩
    have newTag' : ∀ {w' : World} {cc : Array Value} {o : Nat} {tag : Option (Nat × Nat)} {tn : Nat × Nat}, World.more w w' (.cells cc e (0, 0)) → growTag o e tag = some tn → (0 : Nat) = 0 ∧ tagOk tn (w'.shape? w.heap.size) := fun hm ht => by
      have : _ = (e, 0) := (growTag_some ht).2.2
      rw [this]; exact newTag hm
    -- what a new row comes to
    have alloc : ∀ (base' : Option Addr) (c : Nat) (old old' : List Value), ¬ len + n ≤ c → VRs ρ old old' → old'.length = len * esz →
        (∀ w', w'.heap = w.heap → (Builtin.firstCells esz len (.slice base' len c)).run P w' = .ok ⟨old'⟩ w') →
        ∃ w' cc newCap, (Builtin.append_ #[st, xt] ty #[.slice base' len c, x']).run P w = .ok (.slice (some ⟨w.heap.size, 0, none⟩) (len + n) newCap) w' ∧ World.more w w' (.cells cc e (0, 0)) ∧
          (∀ ρ', ρ.le ρ' → BR ρ' { b := w.heap.size, s := 0, z := cc.size } w' (.cells (old ++ new))) ∧ Free { b := w.heap.size, s := 0, z := cc.size } w' ∧
          (∀ ρ' i, ρ' i = some { b := w.heap.size, s := 0, z := cc.size } → VR ρ' (.slice (some ⟨i, 0, none⟩) (len + n) (codeAtLeast esz (len + n))) (.slice (some ⟨w.heap.size, 0, none⟩) (len + n) newCap)) := by
      intro base' c old old' hc hv hol ho
      obtain ⟨cc, w', newCap, g1, g2, ⟨g3, g3'⟩, g4, g5⟩ := run_growSem (P := P) (w := w) hi hzs (sLen := len) (sCap := c) (n := n) (s := .slice base' len c) (x := x') ho v4' hol hnl hneed
      refine ⟨w', cc, newCap, ?_, g2, fun ρ' hr => ?_, ?_, fun ρ' i hi' => ?_⟩
      · rw [run_append_alloc hst hxt hd hsz hi v3 hc b2 b3 ty]; exact g1
      · have hlen2 : (old ++ new).length = (old' ++ new').length := by simp [hv.1, v1.1]
        refine ⟨cc, e, (0, 0), World.more_new g2, rfl, ?_, ?_⟩
        · simp only [Nat.zero_add]
          rw [hlen2]
          have := congrArg List.length g5
          rw [List.length_take] at this
          simp at this ⊢; omega
        · simp only [List.drop_zero]
          rw [hlen2, g5]
          exact (hv.append v1).mono hr
      · refine ⟨fun k _ _ => ?_, fun _ => ?_⟩ <;>
        · simp only [World.frozen?, World.more_new g2]
          simp
      · have := VR.slice (ρ := ρ') (i := i) (o := 0) (l := len + n) (k := codeAtLeast esz (len + n)) (c := newCap) hi' (by rw [j1]; exact Nat.le_refl _) (by unfold capOk; rw [j2, if_neg (by simp), j1]; exact g3) (fun _ => by rw [j3]; refine ⟨?_, g3'⟩; simp; omega) (by rw [litOf_least]; simp)
        simpa using this
    have push : ∀ (base' : Option Addr) (c : Nat) (old old' : List Value), ¬ len + n ≤ c → VRs ρ old old' → old'.length = len * esz →
        (∀ w', w'.heap = w.heap → (Builtin.firstCells esz len (.slice base' len c)).run P w' = .ok ⟨old'⟩ w') →
        Upd B ρ σ w ((Builtin.append_ #[st, xt] ty #[.slice base' len c, x']).run P w) (.slice (some ⟨σ.next, 0, none⟩) (len + n) (codeAtLeast esz (len + n))) (σ.push (.cells (old ++ new)) (some (e, 0))) := by
      intro base' c old old' hc hv hol ho
      obtain ⟨w', cc, newCap, g1, g2, g3, g4, g5⟩ := alloc base' c old old' hc hv hol ho
      have hle := Ren.put_le (p := { b := w.heap.size, s := 0, z := cc.size }) (hS.fresh (Nat.le_refl σ.next)).1
      obtain ⟨k1, k2⟩ := hS.push hB g2 (p := { b := w.heap.size, s := 0, z := cc.size }) rfl (g3 _ hle) g4 (tag := some (e, 0)) (fun tn h => by cases h; exact newTag g2)
      exact ⟨_, w', _, g1, g5 _ _ (Ren.put_self _ _ _), k1, k2⟩
    have nilOld : ∀ (c : Nat) (a' : Option Addr) (w' : World), w'.heap = w.heap → (Builtin.firstCells esz 0 (.slice a' 0 c)).run P w' = .ok ⟨[]⟩ w' := by
      intro c a' w' _
      cases a' with
      | none => rfl
      | some a => simp only [Builtin.firstCells, Nat.zero_mul]; rfl
    cases base with
    | none =>
      simp only at h; cases h
      cases hs with
      | nilSlice hk hj =>
        exact push none 0 [] [] (by omega) (VRs.nil ρ) (by simp) (fun w' hw => nilOld 0 none w' hw)
    | some a =>
      simp only at h
      cases hcl : σ.cells a.block a.off (len * esz) with
      | none => rw [hcl] at h; cases h
      | some old =>
        rw [hcl] at h
        simp only [growV, Bool.cond_eq_ite] at h
        cases hs with
        | slice hr hl hc hz hlit =>
          rename_i i o c p
          obtain ⟨old', o1, o2, o3, o4⟩ := cells_get hL hcl hr
          have ho : ∀ w', w'.heap = w.heap → (Builtin.firstCells esz len (.slice (some ⟨p.b, p.s + o, none⟩) len c)).run P w' = .ok ⟨old'⟩ w' := fun w' hw => by
            simp only [Builtin.firstCells]
            exact run_loadCells_at o2 (fun j v hj => by simp only [World.cell?, hw]; exact o4 j v hj)
          split at h
          · rename_i hj
            cases h
            have ec : c = capOf code := by unfold capOk at hc; rwa [if_pos hj] at hc
            exact push _ c old old' (by omega) o1 o2 ho
          · rename_i hj
            have hj' : justOf code = false := by simpa using hj
            split at h
            case h_2 => cases h
            rename_i c0 chain tag hg
            split at h
            case isFalse => cases h
            rename_i hcond
            simp only [Bool.and_eq_true, Nat.beq_eq] at hcond
            obtain ⟨⟨⟨q1, q2⟩, q3⟩, q4⟩ := hcond
            cases h
            obtain ⟨hz', hz2⟩ := hz hj'
            have hold : old = c0.drop o := by
              unfold St.cells at hcl
              simp only at hcl hg
              rw [hg] at hcl
              obtain ⟨t1, t2⟩ := (takeCells_iff _ _ _ _).1 hcl
              rw [t2, List.take_of_length_le (by simp; omega)]
            have hgr : ({ heap := (σ.heap.put i (some { body := .cells c0, chain, shut := true })).put σ.next (some { body := .cells (old ++ new), chain := i :: chain, shut := false, tag := growTag o e tag }), next := σ.next + 1 } : St) = grown σ i c0 chain (old ++ new) (growTag o e tag) := rfl
            by_cases hcn : len + n ≤ c
            · -- in place
              subst hold
              have hlen0 : o + len * esz = c0.length := q3
              have hzz : p.s + c0.length + new.length ≤ p.z := by
                have h1 : (len + n) * esz ≤ c * esz := Nat.mul_le_mul_right _ hcn
                rw [Nat.add_mul] at h1
                rw [← q1] at hz'
                omega
              obtain ⟨r1, r2, r3⟩ := hS.growPlace hg hr (o := o) (tg := growTag o e tag) (by omega) v1 q4 hzz (fun tn ht => ⟨(growTag_some ht).1, (growTag_some ht).2.1⟩)
              refine ⟨_, _, .slice (some ⟨p.b, p.s + o, none⟩) (len + n) c, ?_, ?_, r2, r3⟩
              · have := run_append_fits (P := P) (w := w) hst hxt hd hsz (base := some ⟨p.b, p.s + o, none⟩) (sLen := len) (sCap := c) v3 v4 hcn ty
                rw [this]
                simp only [addr_add]
                rw [show p.s + o + len * esz = p.s + c0.length by omega, r1 P]; rfl
              · have := VR.slice (ρ := ρ.put σ.next { b := p.b, s := p.s + o, z := p.z, m := p.m }) (i := σ.next) (o := 0) (l := len + n) (k := codeAtLeast esz (len + n)) (c := c) (Ren.put_self _ _ _) (by rw [j1]; exact Nat.le_refl _) (by unfold capOk; rw [j2, if_neg (by simp), j1]; exact hcn) (fun _ => by
                  rw [j3]; rw [← q1] at hz'; refine ⟨?_, hz2⟩; simp; omega) (by rw [litOf_least]; simp)
                simpa using this
            · -- new memory
              obtain ⟨w', cc, newCap, g1, g2, g3, g4, g5⟩ := alloc _ c old old' hcn o1 o2 ho
              have hle := Ren.put_le (p := { b := w.heap.size, s := 0, z := cc.size }) (hS.fresh (Nat.le_refl σ.next)).1
              obtain ⟨k1, k2⟩ := hS.growNew hB g2 hg (l := old ++ new) (p := { b := w.heap.size, s := 0, z := cc.size }) rfl (g3 _ hle) g4 (tg := growTag _ e tag) (fun tn ht => newTag' g2 ht)
              exact ⟨_, w', _, g1, g5 _ _ (Ren.put_self _ _ _), k1, k2⟩
        | noSlice hk hr =>
          rename_i i o a'
          have hold : old = [] := by
            have : old.length = 0 := by
              obtain ⟨p, hp⟩ := Option.isSome_iff_exists.1 hr
              obtain ⟨l', g1, g2, g3, g4⟩ := cells_get hL hcl hp
              simpa using g3
            exact List.eq_nil_of_length_eq_zero this
          subst hold
          split at h
          · cases h
            exact push (some a') 0 [] [] (by omega) (VRs.nil ρ) (by simp) (fun w' hw => nilOld 0 (some a') w' hw)
          · split at h
            case h_2 => cases h
            rename_i c0 chain tag hg
            split at h
            case isFalse => cases h
            cases h
            obtain ⟨w', cc, newCap, g1, g2, g3, g4, g5⟩ := alloc (some a') 0 [] [] (by omega) (VRs.nil ρ) (by simp) (fun w' hw => nilOld 0 (some a') w' hw)
            have hle := Ren.put_le (p := { b := w.heap.size, s := 0, z := cc.size }) (hS.fresh (Nat.le_refl σ.next)).1
            obtain ⟨k1, k2⟩ := hS.growNew hB g2 hg (l := [] ++ new) (p := { b := w.heap.size, s := 0, z := cc.size }) rfl (g3 _ hle) g4 (tg := growTag _ e tag) (fun tn ht => newTag' g2 ht)
            exact ⟨_, w', _, g1, g5 _ _ (Ren.put_self _ _ _), k1, k2⟩
end
end Go.AM
