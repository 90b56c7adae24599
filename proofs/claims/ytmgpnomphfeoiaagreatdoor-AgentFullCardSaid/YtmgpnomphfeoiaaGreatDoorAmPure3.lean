import Derived.Test.YtmgpnomphfeoiaaGreatDoorAmPure2
set_option linter.all false
namespace Go.AM
noncomputable section
section
variable {P : Program} {ρ : Ren}
/-- An index that may be left out. -/
def VRo (ρ : Ren) : Option Value → Option Value → Prop
  | none, none => True
  | some x, some y => VR ρ x y
  | _, _ => False
theorem run_sliceBound {x : Value} {most n most' : Nat} (h : boundOf (some x) 0 most = some n) {x' : Value} (hx : VR ρ x x') (hm : most ≤ most') (code : BoundsCode) (w : World) :
    (Instr.sliceBound x' most' code).run P w = .ok n w ∧ n ≤ most := by
  unfold boundOf at h
  cases x <;> (try (cases h; done))
  rename_i k i
  have e := hx.inv_int; subst e
  cases i with
  | negSucc m => cases h
  | ofNat m =>
    simp only [Bool.cond_eq_ite, Nat.ble_eq] at h
    split at h
    · rename_i hm'
      simp only [Option.some.injEq] at h; subst h
      have hb : (0 ≤ Int.ofNat m ∧ Int.ofNat m ≤ (most' : Int)) := ⟨Int.natCast_nonneg _, by simp; omega⟩
      refine ⟨?_, hm'⟩
      simp only [Instr.sliceBound, asIntOf, Sem.run_bind, Sem.run_pure, Result.andThen_ok]
      rw [if_pos hb]; rfl
    · cases h
theorem boundOf_some {x : Value} {d most n : Nat} (h : boundOf (some x) d most = some n) : boundOf (some x) 0 most = some n := by
  cases x <;> exact h
/-- The three bounds: 'cap' in the abstract is at most what it is; just that where the third bound is not given and the place is asked for. -/
theorem run_bounds3 {lo hi mx : Option Value} {len cap cap' l h m : Nat} (hb : bounds3 lo hi mx len cap = some (l, h, m)) {lo' hi' mx' : Option Value}
    (h1 : VRo ρ lo lo') (h2 : VRo ρ hi hi') (h3 : VRo ρ mx mx') (hc : cap ≤ cap') (hl : len ≤ cap) (isSlice : Bool) (w : World) :
    (Instr.sliceBounds isSlice len cap' lo' hi' mx').run P w = .ok (l, h, if mx.isSome then m else cap') w ∧ l ≤ h ∧ h ≤ m ∧ (mx = none → m = cap) ∧ m ≤ cap := by
  unfold bounds3 at hb
  cases hm : boundOf mx cap cap with
  | none => rw [hm] at hb; cases hb
  | some m0 =>
    rw [hm] at hb
    simp only at hb
    cases hh : highOf mx hi len m0 with
    | none => rw [hh] at hb; cases hb
    | some h0 =>
      rw [hh] at hb
      simp only at hb
      cases hlo : boundOf lo 0 h0 with
      | none => rw [hlo] at hb; cases hb
      | some l0 =>
        rw [hlo] at hb
        cases hb
        cases mx with
        | none =>
          cases mx' with
          | some _ => exact h3.elim
          | none =>
            have em : m = cap := by simp [boundOf] at hm; exact hm.symm
            subst em
            have hh : boundOf hi len m = some h := hh
            cases hi with
            | none =>
              cases hi' with
              | some _ => exact h2.elim
              | none =>
                have eh : h = len := by simp [boundOf] at hh; exact hh.symm
                subst eh
                cases lo with
                | none =>
                  cases lo' with
                  | some _ => exact h1.elim
                  | none =>
                    have el : l = 0 := by simp [boundOf] at hlo; exact hlo.symm
                    subst el
                    exact ⟨by simp [Instr.sliceBounds], Nat.zero_le _, hl, fun _ => rfl, Nat.le_refl _⟩
                | some x =>
                  cases lo' with
                  | none => exact h1.elim
                  | some x' =>
                    obtain ⟨r, hr⟩ := run_sliceBound (P := P) hlo h1 (Nat.le_refl _) .sliceB w
                    exact ⟨by simp [Instr.sliceBounds, r], hr, hl, fun _ => rfl, Nat.le_refl _⟩
            | some y =>
              cases hi' with
              | none => exact h2.elim
              | some y' =>
                obtain ⟨r2, hr2⟩ := run_sliceBound (P := P) (boundOf_some hh) h2 hc (if isSlice then .sliceAcap else .sliceAlen) w
                cases lo with
                | none =>
                  cases lo' with
                  | some _ => exact h1.elim
                  | none =>
                    have el : l = 0 := by simp [boundOf] at hlo; exact hlo.symm
                    subst el
                    exact ⟨by simp [Instr.sliceBounds, r2], Nat.zero_le _, hr2, fun _ => rfl, Nat.le_refl _⟩
                | some x =>
                  cases lo' with
                  | none => exact h1.elim
                  | some x' =>
                    obtain ⟨r, hr⟩ := run_sliceBound (P := P) hlo h1 (Nat.le_refl _) .sliceB w
                    exact ⟨by simp [Instr.sliceBounds, r2, r], hr, hr2, fun _ => rfl, Nat.le_refl _⟩
        | some z =>
          cases mx' with
          | none => exact h3.elim
          | some z' =>
            obtain ⟨r3, hr3⟩ := run_sliceBound (P := P) (boundOf_some hm) h3 hc (if isSlice then .slice3Acap else .slice3Alen) w
            cases hi with
            | none => cases hh
            | some y =>
              cases hi' with
              | none => exact h2.elim
              | some y' =>
                obtain ⟨r2, hr2⟩ := run_sliceBound (P := P) (boundOf_some hh) h2 (Nat.le_refl _) .slice3B w
                cases lo with
                | none =>
                  cases lo' with
                  | some _ => exact h1.elim
                  | none =>
                    have el : l = 0 := by simp [boundOf] at hlo; exact hlo.symm
                    subst el
                    exact ⟨by simp [Instr.sliceBounds, r3, r2], Nat.zero_le _, hr2, (fun e => by cases e), hr3⟩
                | some x =>
                  cases lo' with
                  | none => exact h1.elim
                  | some x' =>
                    obtain ⟨r, hr⟩ := run_sliceBound (P := P) hlo h1 (Nat.le_refl _) .slice3C w
                    exact ⟨by simp [Instr.sliceBounds, r3, r2, r], hr, hr2, (fun e => by cases e), hr3⟩
theorem capOf_just {c : Nat} (h : c ≤ 274877906944) : capOf (codeJust c) = c ∧ justOf (codeJust c) = true := by
  unfold capOf codeJust justOf AM.unit
  constructor
  · rw [Nat.mod_eq_of_lt (by omega)]; omega
  · rw [Nat.beq_eq]; omega
theorem capOf_least {e c : Nat} (h : c ≤ 274877906944) : capOf (codeAtLeast e c) = c ∧ justOf (codeAtLeast e c) = false ∧ eszOf (codeAtLeast e c) = e := by
  unfold capOf codeAtLeast justOf eszOf AM.unit
  refine ⟨by omega, ?_, by omega⟩
  rw [Bool.eq_false_iff, ne_eq, Nat.beq_eq]; omega
theorem capOf_lt (k : Nat) : capOf k < 549755813888 := by unfold capOf AM.unit; omega
theorem litOf_just {c : Nat} (h : c < 549755813888) : litOf (codeJust c) = false := by
  unfold litOf eszOf codeJust AM.unit
  have : (2 * c + 1) / 1099511627776 = 0 := by omega
  rw [this]; exact Bool.and_false _
theorem litOf_least {e c : Nat} : litOf (codeAtLeast e c) = false := by
  unfold litOf justOf codeAtLeast AM.unit
  have : (e * 1099511627776 + 2 * c) % 2 = 0 := by omega
  rw [this]; rfl
theorem capOf_lit {c : Nat} (h : c < 549755813888) : capOf (codeLit c) = c ∧ justOf (codeLit c) = true := by
  unfold capOf codeLit justOf AM.unit
  refine ⟨by omega, ?_⟩
  have : (1099511627776 + (2 * c + 1)) % 2 = 1 := by omega
  rw [this]; rfl
theorem capOf_just' {c : Nat} (h : c < 549755813888) : capOf (codeJust c) = c ∧ justOf (codeJust c) = true := by
  unfold capOf codeJust justOf AM.unit
  constructor
  · rw [Nat.mod_eq_of_lt (by omega)]; omega
  · rw [Nat.beq_eq]; omega
theorem capOf_least' {e c : Nat} (h : c < 549755813888) : capOf (codeAtLeast e c) = c ∧ justOf (codeAtLeast e c) = false ∧ eszOf (codeAtLeast e c) = e := by
  unfold capOf codeAtLeast justOf eszOf AM.unit
  refine ⟨by omega, ?_, by omega⟩
  rw [Bool.eq_false_iff, ne_eq, Nat.beq_eq]; omega
theorem isSmall_le {n : Nat} (h : isSmall n = true) : n ≤ 1048576 := by unfold isSmall at h; exact Nat.le_of_ble_eq_true h
theorem extract_bytes (s : ByteArray) (l h : Nat) : (⟨⟨(s.data.toList.drop l).take (h - l)⟩⟩ : ByteArray) = s.extract l h := by
  apply ByteArray.ext
  apply Array.ext'
  simp [ByteArray.data_extract, List.extract_eq_take_drop]
theorem run_sliceV {t : TypeId} {x x' v : Value} {lo hi mx lo' hi' mx' : Option Value} (h : sliceV P t x lo hi mx = some v) (hx : VR ρ x x') (h1 : VRo ρ lo lo') (h2 : VRo ρ hi hi') (h3 : VRo ρ mx mx') (w : World) :
    ∃ v', (Instr.sliceAt t x' lo' hi' mx').run P w = .ok v' w ∧ VR ρ v v' := by
  unfold sliceV at h
  split at h
  · rename_i s hu
    have e := hx.inv_string; subst e
    cases mx with
    | some _ => cases h
    | none =>
      cases mx' with
      | some _ => exact h3.elim
      | none =>
        simp only at h
        cases hb : bounds3 lo hi none s.size s.size with
        | none => rw [hb] at h; cases h
        | some lhm =>
          obtain ⟨l, h0, m⟩ := lhm
          rw [hb] at h; cases h
          obtain ⟨r, _, _, _, _⟩ := run_bounds3 (P := P) hb h1 h2 h3 (Nat.le_refl _) (Nat.le_refl _) false w
          refine ⟨.string (s.extract l h0), ?_, ?_⟩
          · simp [Instr.sliceAt, Instr.slice, run_underlying hu, r]
          · rw [extract_bytes]; exact .string _
  · rename_i e base len code hu
    cases hs : sizeOf P e with
    | none => rw [hs] at h; cases h
    | some sz =>
      cases hb : bounds3 lo hi mx len (capOf code) with
      | none => rw [hs, hb] at h; cases h
      | some lhm =>
        obtain ⟨l, h0, m⟩ := lhm
        rw [hs, hb] at h
        simp only at h
        cases base with
        | none =>
          cases h
          cases hx with
          | nilSlice hk hj =>
            obtain ⟨r, r1, r2, r3, r4⟩ := run_bounds3 (P := P) hb h1 h2 h3 (cap' := 0) (by omega) (Nat.zero_le _) true w
            have e1 : m = 0 := by omega
            have e2 : h0 = 0 := by omega
            have e3 : l = 0 := by omega
            subst e1; subst e2; subst e3
            refine ⟨.slice none 0 0, ?_, .nilSlice rfl rfl⟩
            simp [Instr.sliceAt, Instr.slice, run_underlying hu, r, run_size hs]
        | some a =>
          cases hx with
          | slice hr hl hc hz hlit =>
            rename_i i o c p
            have hcap := capOf_lt code
            have hcc : capOf code ≤ c := by unfold capOk at hc; split at hc <;> omega
            obtain ⟨r, r1, r2, r3, r4⟩ := run_bounds3 (P := P) hb h1 h2 h3 hcc hl true w
            have run : (Instr.sliceAt t (.slice (some ⟨p.b, p.s + o, none⟩) len c) lo' hi' mx').run P w =
                .ok (.slice (if (if mx.isSome = true then m else c) = l then some ⟨p.b, p.s + o, none⟩ else some ⟨p.b, p.s + o + l * sz, none⟩) (h0 - l) ((if mx.isSome = true then m else c) - l)) w := by
              simp [Instr.sliceAt, Instr.slice, run_underlying hu, r, run_size hs, addr_add]
            cases mx with
            | some z =>
              simp only at h; cases h
              simp only [Option.isSome_some, if_true] at run
              obtain ⟨j1, j2⟩ := capOf_just' (c := m - l) (by omega)
              refine ⟨_, run, ?_⟩
              unfold moved
              simp only [Bool.cond_eq_ite, Nat.beq_eq]
              by_cases hml : m = l
              · rw [if_pos hml, if_pos hml]
                exact .slice hr (by omega) (by unfold capOk; rw [j2, if_pos rfl]; exact j1.symm) (by rw [j2]; simp) (by rw [litOf_just (by omega)]; simp)
              · rw [if_neg hml, if_neg hml, Nat.add_assoc]
                exact .slice hr (by omega) (by unfold capOk; rw [j2, if_pos rfl]; exact j1.symm) (by rw [j2]; simp) (by rw [litOf_just (by omega)]; simp)
            | none =>
              simp only [Bool.cond_eq_ite] at h
              simp only [Option.isSome_none, Bool.false_eq_true, if_false] at run
              have em := r3 rfl
              split at h
              · rename_i hj
                cases h
                have ec : c = capOf code := by unfold capOk at hc; rwa [if_pos hj] at hc
                obtain ⟨j1, j2⟩ := capOf_just' (c := m - l) (by omega)
                refine ⟨_, run, ?_⟩
                unfold moved
                simp only [Bool.cond_eq_ite, Nat.beq_eq]
                have emc : m = c := by omega
                subst emc
                by_cases hml : m = l
                · rw [if_pos hml, if_pos hml]
                  exact .slice hr (by omega) (by unfold capOk; rw [j2, if_pos rfl]; exact j1.symm) (by rw [j2]; simp) (by rw [litOf_just (by omega)]; simp)
                · rw [if_neg hml, if_neg hml, Nat.add_assoc]
                  exact .slice hr (by omega) (by unfold capOk; rw [j2, if_pos rfl]; exact j1.symm) (by rw [j2]; simp) (by rw [litOf_just (by omega)]; simp)
              · rename_i hj
                have hj' : justOf code = false := by simpa using hj
                split at h
                · rename_i hsz
                  cases h
                  rw [Nat.beq_eq] at hsz
                  obtain ⟨j1, j2, j3⟩ := capOf_least' (e := sz) (c := m - l) (by omega)
                  obtain ⟨hz', hz2⟩ := hz hj'
                  refine ⟨_, run, ?_⟩
                  by_cases hcl : c = l
                  · rw [if_pos hcl]
                    have e1 : h0 - l = 0 := by omega
                    have e2 : c - l = 0 := by omega
                    have e3 : m - l = 0 := by omega
                    rw [e1, e2]
                    exact .noSlice (by rw [j1]; exact e3) (by rw [hr]; rfl)
                  · rw [if_neg hcl, Nat.add_assoc]
                    refine .slice hr (by omega) (by unfold capOk; rw [j2, if_neg (by simp)]; omega) (fun _ => ?_) (by rw [litOf_least]; simp)
                    rw [j3]
                    rw [hsz] at hz'
                    have : l * sz + (c - l) * sz = c * sz := by rw [← Nat.add_mul]; congr 1; omega
                    exact ⟨by omega, by omega⟩
                · cases h
          | noSlice hk hr =>
            rename_i i o a'
            obtain ⟨r, r1, r2, r3, r4⟩ := run_bounds3 (P := P) hb h1 h2 h3 (cap' := 0) (by omega) (Nat.zero_le _) true w
            have e1 : m = 0 := by omega
            have e2 : h0 = 0 := by omega
            have e3 : l = 0 := by omega
            subst e1; subst e2; subst e3
            refine ⟨.slice (some a') 0 0, ?_, ?_⟩
            · simp [Instr.sliceAt, Instr.slice, run_underlying hu, r, run_size hs]
            · cases mx with
              | some z => simp only at h; cases h; exact .noSlice (by decide) hr
              | none =>
                simp only [Bool.cond_eq_ite] at h
                split at h
                · cases h; exact .noSlice (by decide) hr
                · split at h
                  · cases h; exact .noSlice (by rw [(capOf_least' (e := sz) (c := 0 - 0) (by omega)).1]) hr
                  · cases h
  · rename_i n e a hu
    cases hs : sizeOf P e with
    | none => rw [hs] at h; cases h
    | some sz =>
      cases hb : bounds3 lo hi mx n n with
      | none => rw [hs, hb] at h; cases h
      | some lhm =>
        obtain ⟨l, h0, m⟩ := lhm
        simp only [hs, hb, Bool.cond_eq_ite] at h
        split at h
        · rename_i hsm
          have hn := isSmall_le hsm
          cases h
          obtain ⟨p, hp, hsp, rfl⟩ := hx.inv_ptr
          obtain ⟨r, r1, r2, r3, r4⟩ := run_bounds3 (P := P) hb h1 h2 h3 (Nat.le_refl _) (Nat.le_refl _) false w
          have em : (if mx.isSome = true then m else n) = m := by
            cases mx with
            | some _ => rfl
            | none => simp; exact (r3 rfl).symm
          rw [em] at r
          obtain ⟨j1, j2⟩ := capOf_just' (c := m - l) (by omega)
          refine ⟨.slice (if m = l then some ⟨p.b, p.s + a.off, none⟩ else some ⟨p.b, p.s + a.off + l * sz, none⟩) (h0 - l) (m - l), ?_, ?_⟩
          · simp [Instr.sliceAt, run_underlying hu, Instr.sureAddr, r, run_size hs, addr_add]
            split <;> rfl
          · unfold moved
            simp only [Bool.cond_eq_ite, Nat.beq_eq]
            obtain ⟨ab, ao, asp⟩ := a
            simp only at hsp; subst hsp
            by_cases hml : m = l
            · rw [if_pos hml, if_pos hml]
              exact .slice hp (by omega) (by unfold capOk; rw [j2, if_pos rfl]; exact j1.symm) (by rw [j2]; simp) (by rw [litOf_just (by omega)]; simp)
            · rw [if_neg hml, if_neg hml, Nat.add_assoc]
              exact .slice hp (by omega) (by unfold capOk; rw [j2, if_pos rfl]; exact j1.symm) (by rw [j2]; simp) (by rw [litOf_just (by omega)]; simp)
        · cases h
  · cases h
end
end
end Go.AM
