import Derived.Test.YtmgpnomphfeoiaaGreatDoorAmPure3
set_option linter.all false
namespace Go.AM
section
variable {P : Program} {ρ : Ren} {σ : St} {w : World}
theorem ba_beq (a b : ByteArray) : (a == b) = decide (a = b) := by
  have : (a == b) = (a.data == b.data) := by cases a; cases b; rfl
  rw [this, Bool.eq_iff_iff, beq_iff_eq, decide_eq_true_eq]
  exact ⟨ByteArray.ext, fun e => e ▸ rfl⟩
theorem keyEq_eq {k x : Value} {b : Bool} (h : keyEq k x = some b) : (∃ j a c, k = .int j a ∧ x = .int j c ∧ b = (a == c)) ∨ (∃ a c, k = .string a ∧ x = .string c ∧ b = (a == c)) ∨ (∃ a c, k = .bool a ∧ x = .bool c ∧ b = (a == c)) := by
  unfold keyEq at h
  split at h
  · simp only [Bool.cond_eq_ite, beq_iff_eq] at h
    split at h
    · rename_i e; subst e; cases h; exact .inl ⟨_, _, _, rfl, rfl, rfl⟩
    · cases h
  · cases h
    rename_i a c
    refine .inr (.inl ⟨_, _, rfl, rfl, ?_⟩)
    rw [bytesEq_iff, ba_beq, Bool.eq_iff_iff, beq_iff_eq, decide_eq_true_eq]
    exact ⟨fun e => ByteArray.ext (Array.ext' e), fun e => e ▸ rfl⟩
  · cases h; exact .inr (.inr ⟨_, _, rfl, rfl, rfl⟩)
  · cases h
theorem VR.inv_key {k x : Value} {b : Bool} (h : keyEq k x = some b) {k' x' : Value} (hk : VR ρ k k') (hx : VR ρ x x') : k' = k ∧ x' = x := by
  rcases keyEq_eq h with ⟨j, a, c, rfl, rfl, _⟩ | ⟨a, c, rfl, rfl, _⟩ | ⟨a, c, rfl, rfl, _⟩
  · exact ⟨hk.inv_int, hx.inv_int⟩
  · exact ⟨hk.inv_string, hx.inv_string⟩
  · exact ⟨hk.inv_bool, hx.inv_bool⟩
theorem sameNow_of {t : TypeId} {d : TypeDesc} (hu : P.underlying t = some d) {k x : Value} (hk : keyKind P t k = true) {b : Bool} (h : keyEq k x = some b) : Instr.sameNow d k x = some b := by
  unfold keyKind at hk
  rw [hu] at hk
  rcases keyEq_eq h with ⟨j, a, c, rfl, rfl, rfl⟩ | ⟨a, c, rfl, rfl, rfl⟩ | ⟨a, c, rfl, rfl, rfl⟩
  · cases d <;> simp at hk; simp [Instr.sameNow]
  · cases d <;> simp at hk; rfl
  · cases d <;> simp at hk; rfl
theorem keyKind_desc {t : TypeId} {k : Value} (hk : keyKind P t k = true) : ∃ d, P.underlying t = some d := by
  unfold keyKind at hk
  cases hu : P.underlying t with
  | none => rw [hu] at hk; cases hk
  | some d => exact ⟨d, rfl⟩
theorem run_checkKey {t : TypeId} {k k' : Value} (hk : keyKind P t k = true) (hv : VR ρ k k') (empty : Bool) (w : World) : (Instr.checkKey empty 10000 t k').run P w = .ok () w := by
  obtain ⟨d, hu⟩ := keyKind_desc hk
  show (Instr.checkKey empty (9999 + 1) t k').run P w = _
  unfold keyKind at hk
  rw [hu] at hk
  rw [Instr.checkKey]
  split at hk
  · rename_i e; cases e
    have := hv.inv_int; subst this; simp [run_underlying hu]
  · rename_i e; cases e
    have := hv.inv_string; subst this; simp [run_underlying hu]
  · rename_i e; cases e
    have := hv.inv_bool; subst this; simp [run_underlying hu]
  · cases hk
theorem find_ok {t : TypeId} {d : TypeDesc} (hu : P.underlying t = some d) {k k' : Value} (hk : keyKind P t k = true) (hkv : VR ρ k k') : ∀ (es : List (Value × Value)) (ents : List MapEntry) (i : Nat) (r : Option Value),
    mapFind k es = some r → VRs ρ (es.map (·.1)) (ents.map (·.key)) → VRs ρ (es.map (·.2)) (ents.map (·.val)) →
    match r with
    | none => Instr.findNow d k' ents i = some none
    | some v => ∃ j e v', Instr.findNow d k' ents i = some (some (i + j, v')) ∧ ents[j]? = some e ∧ e.val = v' ∧ VR ρ v v' ∧ e.key = k'
  | [], ents, i, r, h, h1, h2 => by
    have := h1.inv_nil
    simp at this; subst this
    simp [mapFind] at h; subst h; rfl
  | (x, v) :: es, ents, i, r, h, h1, h2 => by
    cases ents with
    | nil => have := h1.1; simp at this
    | cons e ents =>
      obtain ⟨x', l, e1, hx, hxs⟩ := h1.inv_cons
      obtain ⟨v', l', e2, hv, hvs⟩ := h2.inv_cons
      simp at e1 e2
      obtain ⟨e1a, e1b⟩ := e1
      obtain ⟨e2a, e2b⟩ := e2
      subst e1b; subst e2b
      simp only [mapFind] at h
      cases hq : keyEq k x with
      | none => rw [hq] at h; cases h
      | some b =>
        obtain ⟨ek, ex⟩ := VR.inv_key hq hkv hx
        have hs := sameNow_of hu hk hq
        subst ek
        rw [← ex, ← e1a] at hs
        rw [hq] at h
        cases b with
        | true =>
          simp at h; subst h
          refine ⟨0, e, v', ?_, rfl, e2a, hv, ?_⟩
          · simp only [Instr.findNow, hs, e2a, Nat.add_zero]
          · rw [e1a, ex]
            rcases keyEq_eq hq with ⟨j, a, c, rfl, rfl, h⟩ | ⟨a, c, rfl, rfl, h⟩ | ⟨a, c, rfl, rfl, h⟩
            · have := h.symm; simp at this; rw [this]
            · have := h.symm; rw [ba_beq, decide_eq_true_eq] at this; rw [this]
            · have := h.symm; simp at this; rw [this]
        | false =>
          simp only at h
          have ih := find_ok hu hk hkv es ents (i + 1) r h hxs hvs
          cases r with
          | none => simp only [Instr.findNow, hs]; exact ih
          | some v0 =>
            obtain ⟨j, e0, v0', g1, g2, g3, g4, g5⟩ := ih
            refine ⟨j + 1, e0, v0', ?_, by simpa using g2, g3, g4, g5⟩
            simp only [Instr.findNow, hs, g1]
            congr 3; omega
theorem run_findKey {t : TypeId} {k k' : Value} (hk : keyKind P t k = true) (hkv : VR ρ k k') {es : List (Value × Value)} {ents : Array MapEntry} {r : Option Value}
    (h : mapFind k es = some r) (h1 : VRs ρ (es.map (·.1)) (ents.toList.map (·.key))) (h2 : VRs ρ (es.map (·.2)) (ents.toList.map (·.val))) (w : World) :
    match r with
    | none => (Instr.findKey t k' ents.toList).run P w = .ok none w
    | some v => ∃ j e v', (Instr.findKey t k' ents.toList).run P w = .ok (some (j, v')) w ∧ ents[j]? = some e ∧ e.val = v' ∧ VR ρ v v' ∧ e.key = k' := by
  obtain ⟨d, hu⟩ := keyKind_desc hk
  have := find_ok hu hk hkv es ents.toList 0 r h h1 h2
  cases r with
  | none => simp only at this ⊢; simp [Instr.findKey, run_underlying hu, this]
  | some v =>
    obtain ⟨j, e, v', g1, g2, g3⟩ := this
    exact ⟨j, e, v', by simp [Instr.findKey, run_underlying hu, g1], by simpa using g2, g3⟩
theorem run_mapEntries (hL : Local ρ σ w) {m m' : Value} {es : List (Value × Value)} (h : mapEntries σ m = some es) (hm : VR ρ m m') :
    (m' = .map none ∧ es = []) ∨ (∃ b ents clock, m' = .map (some b) ∧ w.heap[b]? = some (.map ents clock) ∧ VRs ρ (es.map (·.1)) (ents.toList.map (·.key)) ∧ VRs ρ (es.map (·.2)) (ents.toList.map (·.val))) := by
  unfold mapEntries at h
  split at h
  · cases h; cases hm; exact .inl ⟨rfl, rfl⟩
  · obtain ⟨p, hp, rfl⟩ := hm.inv_map
    rename_i r
    split at h
    · rename_i es' ch sh tg hg
      cases h
      obtain ⟨h0, ents, clock, g1, _, g2, g3⟩ := hL r _ p hg hp
      exact .inr ⟨p.b, ents, clock, rfl, g1, g2, g3⟩
    · cases h
  · cases h
theorem run_getMap {b : Nat} {ents : Array MapEntry} {clock : Nat} (h : w.heap[b]? = some (.map ents clock)) : (getObj b).run P w = .ok (.map ents clock) w := by
  simp [getObj, Sem.run, h]
theorem okPair_VR {ok : Bool} {x x' : Value} (h : VR ρ x x') (b : Bool) : VR ρ (okPair ok x b) (if ok then .tuple #[x', .bool b] else x') := by
  unfold okPair
  cases ok
  · exact h
  · exact VR.tuple' (VRs.cons h (VRs.cons (.bool b) (VRs.nil ρ)))
theorem run_lookupV (hL : Local ρ σ w) {t : TypeId} {m m' k k' v : Value} {ok : Bool} (h : lookupV P σ t m k ok = some v) (hm : VR ρ m m') (hk : VR ρ k k') :
    ∃ v', (Instr.lookup t m' k' ok).run P w = .ok v' w ∧ VR ρ v v' := by
  unfold lookupV at h
  split at h
  · rename_i kt e hu
    simp only [Bool.cond_eq_ite] at h
    split at h
    · rename_i hkk
      cases hes : mapEntries σ m with
      | none => rw [hes] at h; cases h
      | some es =>
        rw [hes] at h
        simp only at h
        have zero : ∀ z, zeroOf P e = some z → ∃ z', (∀ w, (Go.zeroValue e).run P w = .ok z' w) ∧ VR ρ z z' := fun z hz => run_zero ρ hz
        rcases run_mapEntries hL hes hm with ⟨rfl, rfl⟩ | ⟨b, ents, clock, rfl, hb, h1, h2⟩
        · simp only [mapFind] at h
          cases hz : zeroOf P e with
          | none => rw [hz] at h; cases h
          | some z =>
            rw [hz] at h; cases h
            obtain ⟨z', r1, r2⟩ := zero z hz
            obtain ⟨d, hud⟩ := keyKind_desc hkk
            refine ⟨_, ?_, okPair_VR r2 false⟩
            simp [Instr.lookup, run_underlying hu, run_checkKey hkk hk, Instr.findKey, run_underlying hud, Instr.findNow, r1]
        · cases hf : mapFind k es with
          | none => rw [hf] at h; cases h
          | some r =>
            rw [hf] at h
            have hfk := run_findKey hkk hk hf h1 h2 w
            cases r with
            | some x =>
              simp only at h; cases h
              obtain ⟨j, en, x', g1, g2, g3, g4, g5⟩ := hfk
              refine ⟨_, ?_, okPair_VR g4 true⟩
              simp [Instr.lookup, run_underlying hu, run_getMap hb, run_checkKey hkk hk, g1]
            | none =>
              simp only at h
              cases hz : zeroOf P e with
              | none => rw [hz] at h; cases h
              | some z =>
                rw [hz] at h; cases h
                obtain ⟨z', r1, r2⟩ := zero z hz
                simp only at hfk
                refine ⟨_, ?_, okPair_VR r2 false⟩
                simp [Instr.lookup, run_underlying hu, run_getMap hb, run_checkKey hkk hk, hfk, r1]
    · cases h
  · cases h
theorem run_lenV (hL : Local ρ σ w) {t : TypeId} {x x' v : Value} (h : lenV P σ t x = some v) (hx : VR ρ x x') (ts : Array TypeId) (ht : ts[0]? = some t) (ty : TypeId) (args : Array Value) (ha : args[0]? = some x') :
    (Builtin.len_ ts ty args).run P w = .ok v w ∧ VR ρ v v := by
  unfold lenV at h
  split at h
  · rename_i s hu
    have e := hx.inv_string; subst e
    cases h
    exact ⟨by simp [Builtin.len_, ht, ha, run_underlying hu, goInt], .int _ _⟩
  · rename_i n e hu
    cases h
    exact ⟨by simp [Builtin.len_, ht, ha, run_underlying hu, goInt], .int _ _⟩
  · rename_i e b n c hu
    cases h
    refine ⟨?_, .int _ _⟩
    cases hx <;> simp [Builtin.len_, ht, ha, run_underlying hu, goInt]
  · rename_i k e hu
    cases h
    cases hx
    exact ⟨by simp [Builtin.len_, ht, ha, run_underlying hu, goInt], .int _ _⟩
  · rename_i k e r hu
    split at h
    · rename_i es ch sh tg hg
      cases h
      obtain ⟨p, hp, rfl⟩ := hx.inv_map
      obtain ⟨h0, ents, clock, g1, _, g2, g3⟩ := hL r _ p hg hp
      have : ents.size = es.length := by have := g2.1; simp at this; exact this.symm
      exact ⟨by simp [Builtin.len_, ht, ha, run_underlying hu, goInt, run_getMap g1, this], .int _ _⟩
    · cases h
  · cases h
theorem run_typeAssertV {t u : TypeId} {x x' v : Value} {ok : Bool} (h : typeAssertV P x t ok = some v) (hx : VR ρ x x') (w : World) :
    ∃ v', (Instr.typeAssert x' u t ok).run P w = .ok v' w ∧ VR ρ v v' := by
  unfold typeAssertV at h
  split at h
  · cases h
  · rename_i d tx y hni hu
    obtain ⟨y', rfl, hy⟩ := hx.inv_iface
    simp only [Bool.cond_eq_ite, Nat.beq_eq] at h
    split at h
    · rename_i e; subst e
      cases h
      refine ⟨_, ?_, okPair_VR hy true⟩
      cases d <;> first | (exact absurd rfl (hni _)) | simp [Instr.typeAssert, run_underlying hu]
    · rename_i hne
      split at h
      · rename_i hok; subst hok
        cases hz : zeroOf P t with
        | none => rw [hz] at h; cases h
        | some z =>
          rw [hz] at h; cases h
          obtain ⟨z', r1, r2⟩ := run_zero ρ hz
          refine ⟨_, ?_, okPair_VR (ok := true) r2 false⟩
          cases d <;> first | (exact absurd rfl (hni _)) | simp [Instr.typeAssert, run_underlying hu, hne, r1]
      · cases h
  · rename_i d hni hu
    cases hx
    simp only [Bool.cond_eq_ite] at h
    split at h
    · rename_i hok; subst hok
      cases hz : zeroOf P t with
      | none => rw [hz] at h; cases h
      | some z =>
        rw [hz] at h; cases h
        obtain ⟨z', r1, r2⟩ := run_zero ρ hz
        refine ⟨_, ?_, okPair_VR (ok := true) r2 false⟩
        cases d <;> first | (exact absurd rfl (hni _)) | simp [Instr.typeAssert, run_underlying hu, r1]
    · cases h
  · cases h
theorem run_extractV {x x' v : Value} {i : Nat} (h : extractV x i = some v) (hx : VR ρ x x') (w : World) : ∃ v', (Instr.extract x' i).run P w = .ok v' w ∧ VR ρ v v' := by
  unfold extractV at h
  split at h
  · obtain ⟨b, rfl, hb⟩ := hx.inv_tuple
    obtain ⟨y, hy, hv⟩ := hb.get h
    have hy' : b[i]? = some y := by simpa using hy
    exact ⟨y, by simp [Instr.extract, hy'], hv⟩
  · cases h
theorem run_makeInterfaceV {t : TypeId} {x x' v : Value} (h : makeInterfaceV P t x = some v) (hx : VR ρ x x') (w : World) : ∃ v', (Instr.makeInterface t x').run P w = .ok v' w ∧ VR ρ v v' := by
  unfold makeInterfaceV at h
  split at h
  · cases h
  · rename_i d hni hu
    cases h
    refine ⟨.iface t x', ?_, .iface t hx⟩
    cases d <;> first | (exact absurd rfl (hni _)) | simp [Instr.makeInterface, run_underlying hu]
  · cases h
theorem min_go : ∀ (vs vs' : List Value) (x v : Value), minMax0.go false x vs = some v → (∃ k n, x = .int k n) → VRs ρ vs vs' → (vs'.foldlM Builtin.min2 x : Sem Value).run P w = .ok v w ∧ ∃ k n, v = .int k n
  | [], vs', x, v, h, hx, hv => by simp [minMax0.go] at h; subst h; have := hv.inv_nil; subst this; exact ⟨rfl, hx⟩
  | y :: vs, vs', x, v, h, ⟨k, n, e⟩, hv => by
    subst e
    obtain ⟨y', l, rfl, hy, hl⟩ := hv.inv_cons
    cases y <;> simp only [minMax0.go] at h <;> (try (cases h; done))
    rename_i k' n'
    have := hy.inv_int; subst this
    obtain ⟨b, c⟩ := min_go vs l _ v h ⟨_, _, rfl⟩ hl
    refine ⟨?_, c⟩
    rw [List.foldlM_cons]
    simp only [Sem.run_bind, Builtin.min2, Sem.run_pure, Result.andThen_ok]
    simpa using b
theorem max_go : ∀ (vs vs' : List Value) (x v : Value), minMax0.go true x vs = some v → (∃ k n, x = .int k n) → VRs ρ vs vs' → (vs'.foldlM Builtin.max2 x : Sem Value).run P w = .ok v w ∧ ∃ k n, v = .int k n
  | [], vs', x, v, h, hx, hv => by simp [minMax0.go] at h; subst h; have := hv.inv_nil; subst this; exact ⟨rfl, hx⟩
  | y :: vs, vs', x, v, h, ⟨k, n, e⟩, hv => by
    subst e
    obtain ⟨y', l, rfl, hy, hl⟩ := hv.inv_cons
    cases y <;> simp only [minMax0.go] at h <;> (try (cases h; done))
    rename_i k' n'
    have := hy.inv_int; subst this
    obtain ⟨b, c⟩ := max_go vs l _ v h ⟨_, _, rfl⟩ hl
    refine ⟨?_, c⟩
    rw [List.foldlM_cons]
    simp only [Sem.run_bind, Builtin.max2, Sem.run_pure, Result.andThen_ok]
    simpa using b
end
end Go.AM
