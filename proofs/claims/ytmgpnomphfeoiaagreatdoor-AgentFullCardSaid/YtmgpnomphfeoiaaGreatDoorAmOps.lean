import Derived.Test.YtmgpnomphfeoiaaGreatDoorAmMem
set_option linter.all false
namespace Go.AM
section
variable {P : Program} {B : Nat} {ρ : Ren} {σ : St} {w : World}
theorem more_push (w : World) (o : Obj) : World.more w { w with heap := w.heap.push o } o := ⟨rfl, rfl, rfl, rfl⟩
theorem made_ptr' {v v' : Value} (h : VR ρ v v') (t : TypeId) {mk : Mk} (hm : mk = .ptr ∨ mk = .ptrT t (cellsOf v).length) : MadeR ρ mk (.cells (cellsOf v)) w { w with heap := w.heap.push (.cells v'.cells t) } (.pointer (some ⟨w.heap.size, 0, none⟩)) := by
  have hc := cellsOf_VRs h
  refine MadeR.cells (m := false) (more_push w _) rfl (.inl rfl) ?_ (by rw [hc.1]; simp) (fun ρ' i hi => ?_) (fun tn ht => ?_)
  · rw [hc.1, List.take_length]; exact hc
  · have := VR.ptr (ρ := ρ') (i := i) (o := 0) hi
    rcases hm with rfl | rfl <;> simpa [Mk.val] using this
  · rcases hm with rfl | rfl
    · cases ht
    · cases ht; rw [hc.1]; simp
theorem made_ptr {v v' : Value} (h : VR ρ v v') (t : TypeId) : MadeR ρ .ptr (.cells (cellsOf v)) w { w with heap := w.heap.push (.cells v'.cells t) } (.pointer (some ⟨w.heap.size, 0, none⟩)) := made_ptr' h t (.inl rfl)
theorem allocMk_is (P : Program) (t : TypeId) (z : Value) : allocMk P t z = .ptr ∨ allocMk P t z = .ptrT t (cellsOf z).length := by
  unfold allocMk; split
  · exact .inr rfl
  · exact .inl rfl
theorem made_slice {len : Nat} {c : List Value} {cc : Array Value} (h : VRs ρ c cc.toList) (hl : len < 549755813888) (e : TypeId) :
    MadeR ρ (.slice len (codeLit len)) (.cells c) w { w with heap := w.heap.push (.cells cc e) } (.slice (some ⟨w.heap.size, 0, none⟩) len len) := by
  refine MadeR.cells (m := false) (more_push w _) rfl (.inl rfl) ?_ (by rw [h.1]; simp) (fun ρ' i hi => ?_)
  · rw [h.1, List.take_length]; exact h
  · obtain ⟨j1, j2⟩ := capOf_lit hl
    have := VR.slice (ρ := ρ') (i := i) (o := 0) (l := len) (k := codeLit len) (c := len) hi (by rw [j1]; exact Nat.le_refl _) (by unfold capOk; rw [j2, if_pos rfl]; exact j1.symm) (fun hh => by rw [j2] at hh; cases hh) (fun _ => rfl)
    simpa [Mk.val] using this
theorem made_slice' {len cap : Nat} {c : List Value} {cc : Array Value} (h : VRs ρ c cc.toList) (hl : cap < 549755813888) (hle : len ≤ cap) (e : TypeId) :
    MadeR ρ (.slice len (codeJust cap)) (.cells c) w { w with heap := w.heap.push (.cells cc e) } (.slice (some ⟨w.heap.size, 0, none⟩) len cap) := by
  refine MadeR.cells (m := false) (more_push w _) rfl (.inl rfl) ?_ (by rw [h.1]; simp) (fun ρ' i hi => ?_)
  · rw [h.1, List.take_length]; exact h
  · obtain ⟨j1, j2⟩ := capOf_just' hl
    have := VR.slice (ρ := ρ') (i := i) (o := 0) (l := len) (k := codeJust cap) (c := cap) hi (by rw [j1]; exact hle) (by unfold capOk; rw [j2, if_pos rfl]; exact j1.symm) (fun hh => by rw [j2] at hh; cases hh) (fun _ => rfl)
    simpa [Mk.val] using this
theorem run_allocV {t : TypeId} {out : Out} (h : allocV P t = some out) : NewOr ρ w ((Instr.alloc t true (.tuple #[])).run P w) out := by
  unfold allocV at h
  cases hz : zeroOf P t with
  | none => rw [hz] at h; cases h
  | some z =>
    rw [hz] at h; cases h
    obtain ⟨z', h1, h2⟩ := run_zero ρ hz
    refine ⟨_, _, ?_, made_ptr' h2 t (allocMk_is P t z)⟩
    simp only [Instr.alloc, Sem.run_bind, h1, Result.andThen_ok, newVar, newRow, run_newObj, Sem.run_pure]
theorem range_map_eq (z : Array Value) (n k : Nat) (h : z.size = n) : ((Array.range (k * n)).map fun i => z[i % z.size]!).toList = repeatCells z.toList k := by
  rw [repeat_eq]
  simp [h]
  intro a _
  cases hh : z[a % n]? <;> simp [getElem!_def, hh]
theorem run_buildSliceV {t : TypeId} {len : Nat} {vs : List (Nat × Value)} {vs' : Array (Nat × Value)} {out : Out} (h : buildSliceV P t len vs = some out) (hv : PairsR ρ vs vs'.toList) :
    NewOr ρ w ((Instr.buildSlice t len vs').run P w) out := by
  unfold buildSliceV at h
  cases he : elemOf P t with
  | none => rw [he] at h; cases h
  | some e =>
    rw [he] at h
    have hu := elemOf_some he
    simp only at h
    cases hs : sizeOf P e with
    | none => rw [hs] at h; cases h
    | some n =>
      cases hz : zeroOf P e with
      | none => rw [hs, hz] at h; cases h
      | some z =>
        rw [hs, hz] at h
        simp only [Bool.cond_eq_ite] at h
        split at h
        case isFalse => cases h
        rename_i hc
        simp only [Bool.and_eq_true, Nat.beq_eq] at hc
        obtain ⟨hc1, hc2⟩ := hc
        have hsm0 := isSmall_le hc1
        rw [Nat.mul_add, Nat.mul_one] at hsm0
        have hsm : len * n ≤ 1048576 := by omega
        cases hf : fillParts (fun i => some (i * n, n)) (repeatCells (cellsOf z) len) vs with
        | none => rw [hf] at h; cases h
        | some c =>
          rw [hf] at h; cases h
          obtain ⟨z', h1, h2⟩ := run_zero ρ hz
          have hcz := cellsOf_VRs h2
          have hzs : z'.cells.size = n := by rw [← hc2, hcz.1]; simp
          have hzero : ∃ zc : Array Value, ((if len * n = 0 then pure #[] else do pure (← Go.zeroValue e).cells : Sem (Array Value))).run P w = .ok zc w ∧
              ((Array.range (len * n)).map fun i => zc[i % zc.size]!).toList = repeatCells z'.cells.toList len := by
            by_cases h0 : len * n = 0
            · refine ⟨#[], by simp [h0], ?_⟩
              rw [h0]
              have : (repeatCells z'.cells.toList len).length = 0 := by rw [repeatCells_length]; simp [hzs, h0]
              rw [List.eq_nil_of_length_eq_zero this]; simp
            · exact ⟨z'.cells, by simp [h0, h1], range_map_eq _ _ _ hzs⟩
          obtain ⟨zc, hz1, hz2⟩ := hzero
          have hrep : VRs ρ (repeatCells (cellsOf z) len) ((Array.range (len * n)).map fun i => zc[i % zc.size]!).toList := by rw [hz2]; exact hcz.repeat len
          obtain ⟨c', k1, k2⟩ := fill_ok _ (fun i => some (i * n, n)) (fun i x hx => hx) vs vs'.toList _ _ c hf hrep hv.1 hv.2
          refine ⟨_, _, ?_, made_slice k2 (len := len) (by omega) e⟩
          unfold Instr.buildSlice
          simp only [Sem.run_bind, run_underlying hu, Result.andThen_ok, run_size hs, Sem.run_ite]
          rw [if_neg (show ¬ len * n > 2 ^ 24 by omega)]
          simp only [Sem.run_pure, Result.andThen_ok]
          have hz1' := hz1
          simp only [Sem.run_ite, Sem.run_bind, Sem.run_pure, h1, Result.andThen_ok] at hz1'
          by_cases h0 : len * n = 0
          · rw [if_pos h0] at hz1' ⊢
            cases hz1'
            simp only [Sem.run_bind, Sem.run_pure, Result.andThen_ok, k1, newRow, run_newObj]
          · rw [if_neg h0] at hz1' ⊢
            cases hz1'
            simp only [Sem.run_bind, Sem.run_pure, h1, Result.andThen_ok, k1, newRow, run_newObj]
set_option maxRecDepth 20000 in
theorem run_makeSliceV {t : TypeId} {l c l' c' : Value} {out : Out} (h : makeSliceV P t l c = some out) (hl : VR ρ l l') (hc : VR ρ c c') : NewOr ρ w ((Instr.makeSlice t l' c').run P w) out := by
  unfold makeSliceV at h
  split at h
  case h_2 => cases h
  rename_i e k1 l k2 c he
  have hu := elemOf_some he
  have e1 := hl.inv_int; subst e1
  have e2 := hc.inv_int; subst e2
  split at h
  case h_2 => cases h
  rename_i n z i hs hz hi
  simp only [Bool.cond_eq_ite] at h
  split at h
  case isFalse => cases h
  rename_i hcond
  simp only [Bool.and_eq_true, Nat.beq_eq, Nat.ble_eq] at hcond
  obtain ⟨⟨⟨q1, q2⟩, q3⟩, q4⟩ := hcond
  cases h
  have b1 := isSmall_le q1
  have b2 := isSmall_le q2
  rw [Nat.mul_add, Nat.mul_one] at b1 b2
  obtain ⟨z', h1, h2⟩ := run_zero ρ hz
  have hcz := cellsOf_VRs h2
  have hzs : z'.cells.size = n := by rw [← q4, hcz.1]; simp
  have w1 : IntKind.i64.wrap (Int.ofNat c) = (c : Int) := by
    simp [IntKind.wrap, IntKind.signed, IntKind.bits]; omega
  have w2 : IntKind.i64.wrap (Int.ofNat l) = (l : Int) := by
    simp [IntKind.wrap, IntKind.signed, IntKind.bits]; omega
  have hrep : VRs ρ (repeatCells (cellsOf z) c) (repeatCells z'.cells.toList c) := hcz.repeat c
  have hbytes : (i.bytes : Int) * (c : Int) ≤ 1048576 := by
    have : i.bytes * c ≤ 1048576 := by rw [Nat.mul_comm]; omega
    have h3 : ((i.bytes * c : Nat) : Int) ≤ 1048576 := by omega
    rwa [Int.natCast_mul] at h3
  have hbl : (i.bytes : Int) * (l : Int) ≤ 1048576 := by
    have : i.bytes * l ≤ 1048576 := Nat.le_trans (Nat.mul_le_mul_left _ q3) (by rw [Nat.mul_comm]; omega)
    have h3 : ((i.bytes * l : Nat) : Int) ≤ 1048576 := by omega
    rwa [Int.natCast_mul] at h3
  have htl : (decide ((c : Int) < 0) || decide ((i.bytes : Int) * (c : Int) > 2 ^ 48) || decide ((l : Int) < 0) || decide ((l : Int) > (c : Int))) = false := by
    simp only [Bool.or_eq_false_iff, decide_eq_false_iff_not]
    refine ⟨⟨⟨by omega, by omega⟩, by omega⟩, by omega⟩
  have hrow : ∃ zc : Array Value, (if c * n = 0 then (Result.ok #[] w : Result (Array Value)) else Result.ok z'.cells w) = .ok zc w ∧ ((Array.range (c * n)).map fun i => zc[i % zc.size]!).toList = repeatCells z'.cells.toList c := by
    by_cases h0 : c * n = 0
    · refine ⟨#[], by simp [h0], ?_⟩
      rw [h0]
      have : (repeatCells z'.cells.toList c).length = 0 := by rw [repeatCells_length]; simp [hzs, h0]
      rw [List.eq_nil_of_length_eq_zero this]; simp
    · exact ⟨z'.cells, by simp [h0], range_map_eq _ _ _ hzs⟩
  obtain ⟨zc, hz1, hz2⟩ := hrow
  refine ⟨_, _, ?_, made_slice' (cc := (Array.range (c * n)).map fun i => zc[i % zc.size]!) (by rw [hz2]; exact hrep) (len := l) (cap := c) (by omega) q3 e⟩
  unfold Instr.makeSlice
  simp only [Sem.run_bind, run_underlying hu, Result.andThen_ok, asInt, asIntOf, Sem.run_pure, run_info hi, w1, w2, Sem.run_ite, htl]
  simp only [Bool.false_eq_true, if_false, Sem.run_bind, run_askRoom, Result.andThen_ok, run_size hs, Int.toNat_natCast, Sem.run_ite, Sem.run_pure, h1]
  clear hbytes hbl htl w1 w2 q1 q2 b1 b2
  generalize c * n = cn at *
  by_cases h0 : cn = 0
  · rw [if_pos h0]
    rw [if_pos h0] at hz1
    have e0 : zc = #[] := by injection hz1 with a; exact a.symm
    rw [e0]
    rfl
  · rw [if_neg h0]
    rw [if_neg h0] at hz1
    have e0 : zc = z'.cells := by injection hz1 with a; exact a.symm
    rw [e0]
    rfl
end
end Go.AM
