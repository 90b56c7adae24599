import Derived.Test.YtmgpnomphfeoiaaGreatDoorAmAppend2
set_option linter.all false
namespace Go.AM
section
variable {P : Program} {B : Nat} {ρ : Ren} {σ : St} {w : World}
theorem run_copyV (hS : Sim B ρ σ w) {ts : List TypeId} {args : List Value} {v : Value} {σ' : St} (h : copyV P σ ts args = some (v, σ')) {args' : List Value} (ha : VRs ρ args args') (ty : TypeId) :
    Upd B ρ σ w ((Builtin.copy_ ⟨ts⟩ ty ⟨args'⟩).run P w) v σ' := by
  have hL := hS.local
  unfold copyV at h
  split at h
  case h_2 => cases h
  rename_i st xt base len code x
  obtain ⟨s', l1, rfl, hs, h2⟩ := ha.inv_cons
  obtain ⟨x', l2, rfl, hx, h3⟩ := h2.inv_cons
  have := h3.inv_nil; subst this
  cases he : elemOf P st with
  | none => rw [he] at h; cases h
  | some e =>
  rw [he] at h
  simp only at h
  have hst := elemOf_some he
  cases hsz : sizeOf P e with
  | none => rw [hsz] at h; cases h
  | some esz =>
  rw [hsz] at h
  simp only at h
  cases hsrc : srcCells σ esz x with
  | none => rw [hsrc] at h; cases h
  | some nn =>
  obtain ⟨new, n⟩ := nn
  rw [hsrc] at h
  simp only [Bool.cond_eq_ite, Nat.ble_eq] at h
  have hk : (if n ≤ len then n else len) = Nat.min n len := by
    show _ = min n len
    rw [Nat.min_def]
  rw [hk] at h
  obtain ⟨new', v1, v2, v3, v4⟩ := run_src (P := P) hL hsrc hx
  have hfirst : (Builtin.firstCells esz (Nat.min n len) x').run P w = .ok ⟨new'.take (Nat.min n len * esz)⟩ w := by
    have hle : Nat.min n len ≤ n := Nat.min_le_left _ _
    generalize Nat.min n len = k at hle
    unfold srcCells at hsrc
    split at hsrc
    · cases hsrc
      cases hx
      have : new' = [] := v1.inv_nil
      subst this
      simp [Builtin.firstCells]
    · rename_i a m c
      cases hc : σ.cells a.block a.off (m * esz) with
      | none => rw [hc] at hsrc; cases hsrc
      | some l =>
        rw [hc] at hsrc; cases hsrc
        cases hx with
        | slice hr hl hc' hz hlit =>
          obtain ⟨l', g1, g2, g3, g4⟩ := cells_get hL hc hr
          have e : new' = l' := by
            have h1 := v4 w rfl
            simp only [Builtin.firstCells] at h1
            have h2 := run_loadCells_at (P := P) g2 g4
            rw [h2] at h1
            simpa using h1.symm
          subst e
          simp only [Builtin.firstCells]
          refine run_loadCells_at (by rw [List.length_take, g2]; exact Nat.min_eq_left (Nat.mul_le_mul_right _ hle)) (fun j v hj => ?_)
          rw [List.getElem?_take] at hj
          split at hj
          · exact g4 j v hj
          · cases hj
        | noSlice hk hr =>
          have : k = 0 := by omega
          subst this
          simp only [Builtin.firstCells, Nat.zero_mul, List.take_zero]; rfl
    · rename_i s
      simp only [Bool.cond_eq_ite, Nat.beq_eq] at hsrc
      split at hsrc
      · rename_i he1; subst he1
        cases hsrc
        have e := hx.inv_string; subst e
        have h1 := v4 w rfl
        simp only [Builtin.firstCells, Sem.run_pure] at h1 ⊢
        have e1 : new' = s.data.toList.map fun b => Value.int .u8 b.toNat := by
          have : s.extract 0 s.size = s := by apply ByteArray.ext; apply Array.ext'; simp
          rw [this] at h1
          have := congrArg (fun r => match r with | Result.ok (a : Array Value) _ => a.toList | _ => []) h1
          simpa using this.symm
        subst e1
        congr 1
        apply Array.ext'
        simp [List.map_take]
      · cases hsrc
    · cases hsrc
  cases base with
  | none =>
    simp only at h; cases h
    cases hs with
    | nilSlice hk0 hj =>
      have e0 : Nat.min n 0 = 0 := Nat.min_zero n
      rw [e0] at hfirst ⊢
      refine ⟨ρ, w, .int .i64 (0 : Nat), ?_, .int _ _, hS, Ext.refl _ _ _⟩
      simp [Builtin.copy_, run_underlying hst, v3, run_size hsz, e0, hfirst, goInt]
  | some a =>
    simp only at h
    cases hw : σ.write a.block a.off (new.take (Nat.min n len * esz)) with
    | none => rw [hw] at h; cases h
    | some σ1 =>
      rw [hw] at h; cases h
      cases hs with
      | slice hr hl hc hz hlit =>
        rename_i i o c p
        obtain ⟨r1, r2, r3⟩ := hS.write (v1.take _) hw hr
        refine ⟨ρ, _, .int .i64 (Nat.min n len : Nat), ?_, .int _ _, r2, r3⟩
        simp [Builtin.copy_, run_underlying hst, v3, run_size hsz, hfirst, goInt, r1]
      | noSlice hk0 hr =>
        rename_i i o a'
        have e0 : Nat.min n 0 = 0 := Nat.min_zero n
        rw [e0] at hw hfirst ⊢
        simp [St.write] at hw; subst hw
        refine ⟨ρ, w, .int .i64 (0 : Nat), ?_, .int _ _, hS, Ext.refl _ _ _⟩
        simp [Builtin.copy_, run_underlying hst, v3, run_size hsz, e0, hfirst, goInt, storeCells]
theorem repeat_eq (z : List Value) : ∀ n, repeatCells z n = ((List.range (n * z.length)).map fun i => z[i % z.length]!)
  | 0 => by simp [repeatCells]
  | n + 1 => by
    rw [repeatCells, repeat_eq z n]
    by_cases hz : z.length = 0
    · have : z = [] := List.eq_nil_of_length_eq_zero hz
      subst this; simp
    · apply List.ext_getElem?
      intro k
      by_cases hk : k < z.length
      · rw [List.getElem?_append_left hk, List.getElem?_map, List.getElem?_range (by
          have : z.length ≤ (n + 1) * z.length := Nat.le_mul_of_pos_left _ (by omega)
          omega)]
        simp [Nat.mod_eq_of_lt hk, List.getElem?_eq_getElem hk]
      · rw [List.getElem?_append_right (by omega), List.getElem?_map, List.getElem?_map]
        by_cases hk2 : k < (n + 1) * z.length
        · have : (n + 1) * z.length = n * z.length + z.length := by rw [Nat.add_mul, Nat.one_mul]
          rw [List.getElem?_range hk2, List.getElem?_range (by omega)]
          simp only [Option.map_some]
          congr 2
          rw [← Nat.mod_eq_sub_mod (by omega)]
        · have : (n + 1) * z.length = n * z.length + z.length := by rw [Nat.add_mul, Nat.one_mul]
          rw [List.getElem?_eq_none (by simp; omega), List.getElem?_eq_none (by simp; omega)]
theorem repeatCells_length (z : List Value) (n : Nat) : (repeatCells z n).length = n * z.length := by rw [repeat_eq]; simp
theorem VRs.repeat {z z' : List Value} (h : VRs ρ z z') : ∀ n, VRs ρ (repeatCells z n) (repeatCells z' n)
  | 0 => VRs.nil ρ
  | n + 1 => h.append (VRs.repeat h n)
theorem zeroCells_eq (z : Array Value) (n : Nat) : (Builtin.zeroCells z n).toList = repeatCells z.toList n := by
  rw [repeat_eq]; unfold Builtin.zeroCells; simp
  intro a _
  cases h : z[a % z.size]? <;> simp [getElem!_def, h]
theorem run_clearV (hS : Sim B ρ σ w) {ts : List TypeId} {args : List Value} {v : Value} {σ' : St} (h : clearV P σ ts args = some (v, σ')) {args' : List Value} (ha : VRs ρ args args') (ty : TypeId) :
    Upd B ρ σ w ((Builtin.clear_ ⟨ts⟩ ty ⟨args'⟩).run P w) v σ' := by
  unfold clearV at h
  split at h
  case h_2 => cases h
  rename_i t x
  obtain ⟨x', l1, rfl, hx, h2⟩ := ha.inv_cons
  have := h2.inv_nil; subst this
  split at h
  · rename_i hu
    cases h
    refine ⟨ρ, w, Go.undef, ?_, VR.undef ρ, hS, Ext.refl _ _ _⟩
    cases hx
    simp [Builtin.clear_, run_underlying hu]; rfl
  · rename_i e a n c hu
    simp only [Bool.cond_eq_ite, Nat.beq_eq] at h
    split at h
    · rename_i hn; subst hn
      cases h
      refine ⟨ρ, w, Go.undef, ?_, VR.undef ρ, hS, Ext.refl _ _ _⟩
      cases hx <;> (simp [Builtin.clear_, run_underlying hu]; rfl)
    · rename_i hn
      cases hz : zeroOf P e with
      | none => rw [hz] at h; cases h
      | some z =>
        rw [hz] at h
        simp only at h
        obtain ⟨z', hz1, hz2⟩ := run_zero ρ hz
        cases hw : σ.write a.block a.off (repeatCells (cellsOf z) n) with
        | none => rw [hw] at h; cases h
        | some σ1 =>
          rw [hw] at h; cases h
          cases hx with
          | slice hr hl hc hz hlit =>
            rename_i i o c p
            obtain ⟨r1, r2, r3⟩ := hS.write ((cellsOf_VRs hz2).repeat n) hw hr
            refine ⟨ρ, _, Go.undef, ?_, VR.undef ρ, r2, r3⟩
            have hcl : (Builtin.clear_ #[t] ty #[.slice (some ⟨p.b, p.s + o, none⟩) n c]).run P w = ((storeCells ⟨p.b, p.s + o, none⟩ (Builtin.zeroCells z'.cells n).toList).run P w).andThen fun _ w' => .ok Go.undef w' := by
              unfold Builtin.clear_
              simp only [List.getElem?_toArray, List.getElem?_cons_zero, Sem.run_bind, run_underlying hu, Result.andThen_ok]
              cases n with
              | zero => omega
              | succ n => simp only [Sem.run_bind, hz1, Result.andThen_ok, Sem.run_pure]; rfl
            rw [hcl, zeroCells_eq, r1 P]; rfl
          | noSlice hk hr => omega
  · rename_i k e hu
    cases h
    refine ⟨ρ, w, Go.undef, ?_, VR.undef ρ, hS, Ext.refl _ _ _⟩
    cases hx
    simp [Builtin.clear_, run_underlying hu]; rfl
  · rename_i k e r hu
    split at h
    case h_2 => cases h
    rename_i es hg
    cases h
    obtain ⟨p, hp, rfl⟩ := hx.inv_map
    obtain ⟨h0, ents, clock, g1, gs, g2, g3⟩ := hS.local r _ p hg hp
    obtain ⟨k1, k2⟩ := hS.mapSet hg hp (es' := []) (ents := #[]) (clock := clock) (MapKept.stamped_empty _) (by simpa using VRs.nil ρ) (by simpa using VRs.nil ρ)
    refine ⟨ρ, _, Go.undef, ?_, VR.undef ρ, k1, k2⟩
    simp [Builtin.clear_, run_underlying hu, getObj, setObj, Sem.run, g1]; rfl
  · cases h
theorem mapDel_ok {t : TypeId} {d : TypeDesc} (hu : P.underlying t = some d) {k k' : Value} (hk : keyKind P t k = true) (hkv : VR ρ k k') : ∀ (es : List (Value × Value)) (ents : List MapEntry) (i : Nat) (es' : List (Value × Value)),
    mapDel k es = some es' → VRs ρ (es.map (·.1)) (ents.map (·.key)) → VRs ρ (es.map (·.2)) (ents.map (·.val)) →
    (Instr.findNow d k' ents i = some none ∧ es' = es) ∨ (∃ j v, Instr.findNow d k' ents i = some (some (i + j, v)) ∧ j < ents.length ∧ VRs ρ (es'.map (·.1)) ((ents.eraseIdx j).map (·.key)) ∧ VRs ρ (es'.map (·.2)) ((ents.eraseIdx j).map (·.val)))
  | [], ents, i, es', h, h1, h2 => by
    have := h1.inv_nil
    simp at this; subst this
    simp [mapDel] at h; subst h; exact .inl ⟨rfl, rfl⟩
  | (x, v) :: es, ents, i, es', h, h1, h2 => by
    cases ents with
    | nil => have := h1.1; simp at this
    | cons e ents =>
      obtain ⟨x', l, e1, hx, hxs⟩ := h1.inv_cons
      obtain ⟨v', l', e2, hv, hvs⟩ := h2.inv_cons
      simp at e1 e2
      obtain ⟨e1a, e1b⟩ := e1
      obtain ⟨e2a, e2b⟩ := e2
      subst e1b; subst e2b
      simp only [mapDel] at h
      cases hq : keyEq k x with
      | none => rw [hq] at h; cases h
      | some b =>
        obtain ⟨ek, ex⟩ := VR.inv_key hq hkv hx
        have hs := sameNow_of hu hk hq
        subst ek
        rw [← ex, ← e1a] at hs
        rw [hq] at h
        cases b with
        | true =>
          simp at h; subst h
          refine .inr ⟨0, e.val, ?_, by simp, by simpa using hxs, by simpa using hvs⟩
          simp only [Instr.findNow, hs, Nat.add_zero]
        | false =>
          simp only at h
          cases hd : mapDel k' es with
          | none => rw [hd] at h; cases h
          | some l =>
            rw [hd] at h; cases h
            rcases mapDel_ok hu hk hkv es ents (i + 1) l hd hxs hvs with ⟨a, rfl⟩ | ⟨j, v0, a, b, c, dd⟩
            · exact .inl ⟨by simp only [Instr.findNow, hs]; exact a, rfl⟩
            · refine .inr ⟨j + 1, v0, ?_, by simpa using b, ?_, ?_⟩
              · simp only [Instr.findNow, hs, a]; congr 3; omega
              · simp only [List.eraseIdx_cons_succ, List.map_cons]
                rw [e1a]; exact VRs.cons hx c
              · simp only [List.eraseIdx_cons_succ, List.map_cons]
                rw [e2a]; exact VRs.cons hv dd
theorem run_deleteV (hS : Sim B ρ σ w) {ts : List TypeId} {args : List Value} {v : Value} {σ' : St} (h : deleteV P σ ts args = some (v, σ')) {args' : List Value} (ha : VRs ρ args args') (ty : TypeId) :
    Upd B ρ σ w ((Builtin.delete_ ⟨ts⟩ ty ⟨args'⟩).run P w) v σ' := by
  unfold deleteV at h
  split at h
  case h_2 => cases h
  rename_i t t2 x k
  obtain ⟨x', l1, rfl, hx, h2⟩ := ha.inv_cons
  obtain ⟨k', l2, rfl, hk, h3⟩ := h2.inv_cons
  have := h3.inv_nil; subst this
  split at h
  · rename_i kt e hu
    simp only [Bool.cond_eq_ite] at h
    split at h
    · rename_i hkk
      cases h
      cases hx
      refine ⟨ρ, w, Go.undef, ?_, VR.undef ρ, hS, Ext.refl _ _ _⟩
      simp [Builtin.delete_, run_underlying hu, run_checkKey hkk hk]; rfl
    · cases h
  · rename_i kt e r hu
    simp only [Bool.cond_eq_ite] at h
    split at h
    case isFalse => cases h
    rename_i hkk
    split at h
    case h_2 => cases h
    rename_i es hg
    cases hd : mapDel k es with
    | none => rw [hd] at h; cases h
    | some l =>
      rw [hd] at h; cases h
      obtain ⟨p, hp, rfl⟩ := hx.inv_map
      obtain ⟨h0, ents, clock, g1, gs, g2, g3⟩ := hS.local r _ p hg hp
      obtain ⟨d, hud⟩ := keyKind_desc hkk
      rcases mapDel_ok hud hkk hk es ents.toList 0 l hd g2 g3 with ⟨a, rfl⟩ | ⟨j, v0, a, b, c, dd⟩
      · obtain ⟨k1, k2⟩ := hS.mapSet hg hp (es' := l) (ents := ents) (clock := clock) gs g2 g3
        refine ⟨ρ, _, Go.undef, ?_, VR.undef ρ, k1, k2⟩
        simp [Builtin.delete_, run_underlying hu, run_getMap g1, run_checkKey hkk hk, Instr.findKey, run_underlying hud, a, setObj, Sem.run, g1]; rfl
      · obtain ⟨k1, k2⟩ := hS.mapSet hg hp (es' := l) (ents := ents.eraseIdxIfInBounds j) (clock := clock) (MapKept.stamped_erase gs j) (by
          rw [Array.eraseIdxIfInBounds]; simp at b; rw [dif_pos b]; simpa using c) (by
          rw [Array.eraseIdxIfInBounds]; simp at b; rw [dif_pos b]; simpa using dd)
        refine ⟨ρ, _, Go.undef, ?_, VR.undef ρ, k1, k2⟩
        simp [Builtin.delete_, run_underlying hu, run_getMap g1, run_checkKey hkk hk, Instr.findKey, run_underlying hud, a, setObj, Sem.run, g1]; rfl
  · cases h
theorem mapSet_ok {t : TypeId} {d : TypeDesc} (hu : P.underlying t = some d) {k k' z z' : Value} (hk : keyKind P t k = true) (hkv : VR ρ k k') (hz : VR ρ z z') (born : Nat) : ∀ (es : List (Value × Value)) (ents : List MapEntry) (i : Nat) (es' : List (Value × Value)),
    mapSet k z es = some es' → VRs ρ (es.map (·.1)) (ents.map (·.key)) → VRs ρ (es.map (·.2)) (ents.map (·.val)) →
    (Instr.findNow d k' ents i = some none ∧ (∀ x ∈ ents, x.key ≠ k') ∧ VRs ρ (es'.map (·.1)) ((ents ++ [({ key := k', val := z', born } : MapEntry)]).map (fun (e : MapEntry) => e.key)) ∧ VRs ρ (es'.map (·.2)) ((ents ++ [({ key := k', val := z', born } : MapEntry)]).map (fun (e : MapEntry) => e.val))) ∨
    (∃ j v e, Instr.findNow d k' ents i = some (some (i + j, v)) ∧ ents[j]? = some e ∧ e.key = k' ∧
      VRs ρ (es'.map (·.1)) ((ents.modify j fun e => { e with key := k', val := z' }).map (·.key)) ∧ VRs ρ (es'.map (·.2)) ((ents.modify j fun e => { e with key := k', val := z' }).map (·.val)))
  | [], ents, i, es', h, h1, h2 => by
    have := h1.inv_nil
    simp at this; subst this
    simp [mapSet] at h; subst h
    exact .inl ⟨rfl, (fun x hx => by cases hx), VRs.cons hkv (VRs.nil ρ), VRs.cons hz (VRs.nil ρ)⟩
  | (x, v) :: es, ents, i, es', h, h1, h2 => by
    cases ents with
    | nil => have := h1.1; simp at this
    | cons e ents =>
      obtain ⟨x', l, e1, hx, hxs⟩ := h1.inv_cons
      obtain ⟨v', l', e2, hv, hvs⟩ := h2.inv_cons
      simp at e1 e2
      obtain ⟨e1a, e1b⟩ := e1
      obtain ⟨e2a, e2b⟩ := e2
      subst e1b; subst e2b
      simp only [mapSet] at h
      cases hq : keyEq k x with
      | none => rw [hq] at h; cases h
      | some b =>
        obtain ⟨ek, ex⟩ := VR.inv_key hq hkv hx
        have hs := sameNow_of hu hk hq
        subst ek
        have hs' := hs
        rw [← ex, ← e1a] at hs
        rw [hq] at h
        cases b with
        | true =>
          simp at h; subst h
          refine .inr ⟨0, e.val, e, ?_, rfl, ?_, ?_, ?_⟩
          · simp only [Instr.findNow, hs, Nat.add_zero]
          · rw [e1a, ex]
            rcases keyEq_eq hq with ⟨j, a, c, rfl, rfl, h⟩ | ⟨a, c, rfl, rfl, h⟩ | ⟨a, c, rfl, rfl, h⟩
            · have := h.symm; simp at this; rw [this]
            · have := h.symm; rw [ba_beq, decide_eq_true_eq] at this; rw [this]
            · have := h.symm; simp at this; rw [this]
          · simpa using VRs.cons hkv hxs
          · simpa using VRs.cons hz hvs
        | false =>
          simp only at h
          cases hd : mapSet k' z es with
          | none => rw [hd] at h; cases h
          | some l =>
            rw [hd] at h; cases h
            rcases mapSet_ok hu hk hkv hz born es ents (i + 1) l hd hxs hvs with ⟨a, a2, b, c⟩ | ⟨j, v0, e0, a, b, b2, c, dd⟩
            · refine .inl ⟨by simp only [Instr.findNow, hs]; exact a, ?_, ?_, ?_⟩
              · intro y hy
                rcases List.mem_cons.1 hy with rfl | hy
                · rw [e1a, ex]
                  rintro rfl
                  rcases keyEq_eq hq with ⟨j, a, c, e1, e2, h⟩ | ⟨a, c, e1, e2, h⟩ | ⟨a, c, e1, e2, h⟩
                  · rw [e1] at e2; cases e2; simp at h
                  · rw [e1] at e2; cases e2; rw [ba_beq] at h; simp at h
                  · rw [e1] at e2; cases e2; simp at h
                · exact a2 y hy
              · simp only [List.cons_append, List.map_cons]; rw [e1a]; exact VRs.cons hx b
              · simp only [List.cons_append, List.map_cons]; rw [e2a]; exact VRs.cons hv c
            · refine .inr ⟨j + 1, v0, e0, ?_, by simpa using b, b2, ?_, ?_⟩
              · simp only [Instr.findNow, hs, a]; congr 3; omega
              · simp only [List.modify_succ_cons, List.map_cons]; rw [e1a]; exact VRs.cons hx c
              · simp only [List.modify_succ_cons, List.map_cons]; rw [e2a]; exact VRs.cons hv dd
theorem sameBits_key {t : TypeId} {k : Value} (hk : keyKind P t k = true) : Instr.sameBits 10000 k k = true := by
  unfold keyKind at hk
  split at hk
  · simp [Instr.sameBits]
  · simp [Instr.sameBits, ba_beq]
  · simp [Instr.sameBits]
  · cases hk
theorem VR.key_same {t : TypeId} {k k' : Value} (hk : keyKind P t k = true) (h : VR ρ k k') : k' = k := by
  unfold keyKind at hk
  split at hk
  · exact h.inv_int
  · exact h.inv_string
  · exact h.inv_bool
  · cases hk
theorem run_mapUpdateV (hS : Sim B ρ σ w) {t : TypeId} {m m' k k' z z' : Value} {σ' : St} (h : mapUpdateV P σ t m k z = some σ') (hm : VR ρ m m') (hk : VR ρ k k') (hz : VR ρ z z') :
    ∃ w', (Instr.mapUpdate t m' k' z').run P w = .ok () w' ∧ Sim B ρ σ' w' ∧ Ext ρ σ w ρ σ' w' := by
  unfold mapUpdateV at h
  split at h
  case h_2 => cases h
  rename_i kt e r hu
  simp only [Bool.cond_eq_ite] at h
  split at h
  case isFalse => cases h
  rename_i hkk
  split at h
  case h_2 => cases h
  rename_i es hg
  cases hd : mapSet k z es with
  | none => rw [hd] at h; cases h
  | some l =>
    rw [hd] at h; cases h
    obtain ⟨p, hp, rfl⟩ := hm.inv_map
    obtain ⟨h0, ents, clock, g1, gs, g2, g3⟩ := hS.local r _ p hg hp
    obtain ⟨d, hud⟩ := keyKind_desc hkk
    have hkeq := VR.key_same hkk hk
    rcases mapSet_ok hud hkk hk hz clock es ents.toList 0 l hd g2 g3 with ⟨a, a2, b, c⟩ | ⟨j, v0, en, a, b, b2, c, dd⟩
    · obtain ⟨k1, k2⟩ := hS.mapSet hg hp (es' := l) (ents := ents.push { key := k', val := z', born := clock }) (clock := clock + 1) (MapKept.stamped_push gs a2) (by simpa using b) (by simpa using c)
      refine ⟨_, ?_, k1, k2⟩
      simp [Instr.mapUpdate, run_underlying hu, run_getMap g1, run_checkKey hkk hk, Instr.findKey, run_underlying hud, a, setObj, Sem.run, g1]
    · obtain ⟨k1, k2⟩ := hS.mapSet hg hp (es' := l) (ents := ents.modify j fun e => { e with key := k', val := z' }) (clock := clock) (MapKept.stamped_modify gs j _ (fun _ _ => rfl) (fun e' _ he' => (by rw [show ents[j]? = some en by simpa using b] at he'; cases he'; exact b2.symm))) (by simpa using c) (by simpa using dd)
      refine ⟨_, ?_, k1, k2⟩
      have hb : ents[j]? = some en := by simpa using b
      have hs := sameBits_key hkk
      rw [← hkeq] at hs
      simp [Instr.mapUpdate, run_underlying hu, run_getMap g1, run_checkKey hkk hk, Instr.findKey, run_underlying hud, a, hb, Instr.keyThatStays, b2, hs, setObj, Sem.run, g1]
end
end Go.AM
