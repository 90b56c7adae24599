import Derived.Test.YtmgpnomphfeoiaaGreatDoorAmPure
set_option linter.all false
namespace Go.AM
noncomputable section
section
variable {P : Program} {ρ : Ren}
theorem foldl_splice : ∀ (vs : List Value) (k off : Nat) (cells : Array Value), off + k + vs.length ≤ cells.size →
    ((vs.zipIdx k).foldl (fun cs (x : Value × Nat) => cs.setIfInBounds (off + x.2) x.1) cells).toList = cells.toList.take (off + k) ++ vs ++ cells.toList.drop (off + k + vs.length)
  | [], k, off, cells, _ => by simp
  | v :: vs, k, off, cells, h => by
    have hk : off + k < cells.toList.length := by simp at h ⊢; omega
    rw [List.zipIdx_cons, List.foldl_cons, foldl_splice vs (k + 1) off _ (by simp at h ⊢; omega)]
    rw [Array.toList_setIfInBounds, show off + (k + 1) = off + k + 1 by omega, List.take_add_one, List.getElem?_set_self hk]
    simp [List.take_set, List.drop_set]
    rw [List.set_eq_of_length_le (by simp; omega), if_pos (by omega), show off + k + (vs.length + 1) = off + k + 1 + vs.length by omega]
theorem arr_foldl_splice (vs : Array Value) (off : Nat) (cells : Array Value) (h : off + vs.size ≤ cells.size) :
    (vs.zipIdx.foldl (fun cs (x : Value × Nat) => cs.setIfInBounds (off + x.2) x.1) cells).toList = cells.toList.take off ++ vs.toList ++ cells.toList.drop (off + vs.size) := by
  rw [← Array.foldl_toList, Array.toList_zipIdx]
  have := foldl_splice vs.toList 0 off cells (by simpa using h)
  simpa using this
/-- Parts laid into cells. -/
theorem fill_ok (place place' : Nat → Option (Nat × Nat)) (hp : ∀ i x, place i = some x → place' i = some x) : ∀ (vs : List (Nat × Value)) (vs' : List (Nat × Value)) (cells : List Value) (cells' : Array Value) (c : List Value),
    fillParts place cells vs = some c → VRs ρ cells cells'.toList → vs.length = vs'.length → (∀ (k : Nat) (x y : Nat × Value), vs[k]? = some x → vs'[k]? = some y → x.1 = y.1 ∧ VR ρ x.2 y.2) →
    ∃ c' : Array Value, Instr.fill place' cells' vs' = some c' ∧ VRs ρ c c'.toList
  | [], vs', cells, cells', c, h, hc, hl, hv => by
    cases vs' with
    | nil => simp [fillParts] at h; subst h; exact ⟨cells', rfl, hc⟩
    | cons y l => simp at hl
  | (i, v) :: vs, vs', cells, cells', c, h, hc, hl, hv => by
    cases vs' with
    | nil => simp at hl
    | cons y l =>
      obtain ⟨j, v'⟩ := y
      obtain ⟨h1, h2⟩ := hv 0 (i, v) (j, v') rfl rfl
      simp only at h1 h2
      subst h1
      simp only [fillParts] at h
      cases hpl : place i with
      | none => rw [hpl] at h; cases h
      | some os =>
        obtain ⟨off, size⟩ := os
        simp only [hpl, Bool.cond_eq_ite, Nat.beq_eq] at h
        split at h
        case isFalse => cases h
        rename_i hsz
        cases hs : setCells cells off (cellsOf v) with
        | none => simp [hs] at h
        | some d =>
          simp only [hs] at h
          obtain ⟨g1, rfl⟩ := (setCells_iff _ _ _ _).1 hs
          have hcv := cellsOf_VRs h2
          have e1 : v'.cells.size = size := by rw [← hsz, hcv.1]; simp
          have e2 : cells'.size = cells.length := by rw [hc.1]; simp
          have hsp := arr_foldl_splice v'.cells off cells' (by rw [e1, e2]; omega)
          have hcs := hc.splice hcv off
          obtain ⟨c', k1, k2⟩ := fill_ok place place' hp vs l _ (v'.cells.zipIdx.foldl (fun cs (x : Value × Nat) => cs.setIfInBounds (off + x.2) x.1) cells') c h (by
            rw [hsp]
            rw [show off + v'.cells.size = off + (cellsOf v).length by rw [e1, hsz]]
            exact hcs) (by simpa using hl) (fun k x y hx hy => hv (k + 1) x y (by simpa using hx) (by simpa using hy))
          refine ⟨c', ?_, k2⟩
          rw [Instr.fill, hp i _ hpl]
          simp only [e1, e2]
          rw [if_neg (by simp; omega)]
          exact k1
theorem run_places (w : World) : ∀ (fs : List Field) (pl : List (Nat × Nat)), placesOf P fs = some pl → (fs.mapM fun f => (do pure (f.offset, ← Go.sizeOf f.type) : Sem (Nat × Nat))).run P w = .ok pl w
  | [], pl, h => by simp [placesOf] at h; subst h; rfl
  | f :: fs, pl, h => by
    simp only [placesOf] at h
    cases hs : sizeOf P f.type with
    | none => rw [hs] at h; cases h
    | some n =>
      rw [hs] at h
      cases hl : placesOf P fs with
      | none => rw [hl] at h; cases h
      | some l =>
        rw [hl] at h; cases h
        rw [List.mapM_cons]
        have := run_places w fs l hl
        simp only [Sem.run_bind, run_size hs, Result.andThen_ok, this, Sem.run_pure]
def PairsR (ρ : Ren) (vs vs' : List (Nat × Value)) : Prop := vs.length = vs'.length ∧ ∀ (k : Nat) (x y : Nat × Value), vs[k]? = some x → vs'[k]? = some y → x.1 = y.1 ∧ VR ρ x.2 y.2
theorem run_buildV {t : TypeId} {vs : List (Nat × Value)} {vs' : Array (Nat × Value)} {v : Value} (h : buildV P t vs = some v) (hv : PairsR ρ vs vs'.toList) (w : World) :
    ∃ v', (Instr.build t vs').run P w = .ok v' w ∧ VR ρ v v' := by
  unfold buildV at h
  cases hz : zeroOf P t with
  | none => rw [hz] at h; cases h
  | some z =>
    rw [hz] at h
    obtain ⟨z', hz1, hz2⟩ := run_zero ρ hz
    have hcz := cellsOf_VRs hz2
    cases hu : P.underlying t with
    | none => simp [hu] at h
    | some d =>
      cases d with
      | struct fs =>
        simp only [hu] at h
        cases hpl : placesOf P fs.toList with
        | none => rw [hpl] at h; cases h
        | some pl =>
          rw [hpl] at h
          simp only at h
          cases hf : fillParts (fun i => pl[i]?) (cellsOf z) vs with
          | none => rw [hf] at h; cases h
          | some c =>
            rw [hf] at h; cases h
            obtain ⟨c', k1, k2⟩ := fill_ok _ (fun i => pl.toArray[i]?) (fun i x hx => by simpa using hx) vs vs'.toList _ z'.cells c hf hcz hv.1 hv.2
            refine ⟨.agg c', ?_, VR.agg' k2⟩
            have hm : (fs.mapM fun f => (do pure (f.offset, ← Go.sizeOf f.type) : Sem (Nat × Nat))).run P w = .ok pl.toArray w := by
              rw [Array.mapM_eq_mapM_toList]
              simp only [Sem.run_map, run_places w fs.toList pl hpl, Result.andThen_ok]
            simp only [Instr.build, Sem.run_bind, hz1, Result.andThen_ok, run_underlying hu, hm, k1, Sem.run_pure]
      | array n e =>
        simp only [hu] at h
        cases hs : sizeOf P e with
        | none => rw [hs] at h; cases h
        | some sz =>
          rw [hs] at h
          simp only at h
          cases hf : fillParts (fun i => some (i * sz, sz)) (cellsOf z) vs with
          | none => rw [hf] at h; cases h
          | some c =>
            rw [hf] at h; cases h
            obtain ⟨c', k1, k2⟩ := fill_ok _ (fun i => some (i * sz, sz)) (fun i x hx => hx) vs vs'.toList _ z'.cells c hf hcz hv.1 hv.2
            refine ⟨.agg c', ?_, VR.agg' k2⟩
            simp only [Instr.build, Sem.run_bind, hz1, Result.andThen_ok, run_underlying hu, run_size hs, k1, Sem.run_pure]
      | _ => simp [hu] at h
theorem fieldSpot_some {fs : List Field} {i off n : Nat} (h : fieldSpot P fs i = some (off, n)) : ∃ f, fs[i]? = some f ∧ f.offset = off ∧ sizeOf P f.type = some n := by
  unfold fieldSpot at h
  cases hf : fs[i]? with
  | none => rw [hf] at h; cases h
  | some f =>
    rw [hf] at h
    simp only at h
    cases hs : sizeOf P f.type with
    | none => rw [hs] at h; cases h
    | some n' => rw [hs] at h; cases h; exact ⟨f, rfl, rfl, hs⟩
theorem structFields_some {t : TypeId} {fs : List Field} (h : structFields P t = some fs) : ∃ a : Array Field, P.underlying t = some (.struct a) ∧ a.toList = fs := by
  unfold structFields at h
  cases hu : P.underlying t with
  | none => rw [hu] at h; cases h
  | some d => rw [hu] at h; cases d <;> simp at h; exact ⟨_, rfl, h⟩
theorem run_fieldAddrV {t : TypeId} {x x' v : Value} {f : Nat} (h : fieldAddrV P t x f = some v) (hx : VR ρ x x') (w : World) : ∃ v', (Instr.fieldAt t x' f).run P w = .ok v' w ∧ VR ρ v v' := by
  unfold fieldAddrV at h
  split at h
  · obtain ⟨p, hp, hs, rfl⟩ := hx.inv_ptr
    rename_i a
    cases hfs : structFields P t with
    | none => rw [hfs] at h; cases h
    | some fs =>
      rw [hfs] at h
      simp only at h
      cases hsp : fieldSpot P fs f with
      | none => rw [hsp] at h; cases h
      | some on =>
        obtain ⟨off, n⟩ := on
        simp only [hsp, Bool.cond_eq_ite, Nat.beq_eq] at h
        split at h
        · cases h
        · rename_i hn
          cases h
          obtain ⟨fd, h1, rfl, h2⟩ := fieldSpot_some hsp
          obtain ⟨arr, hu, rfl⟩ := structFields_some hfs
          have h1' : arr[f]? = some fd := by simpa using h1
          refine ⟨.pointer (some ⟨p.b, p.s + (a.off + fd.offset), none⟩), ?_, .ptr hp⟩
          simp only [Instr.fieldAt, Sem.run_bind, run_underlying hu, Result.andThen_ok, h1', Instr.sureAddr, Sem.run_pure, fieldPlace, run_size h2, if_neg hn, addr_add, Nat.add_assoc]
  · cases h
theorem run_fieldV {t : TypeId} {x x' v : Value} {f : Nat} (h : fieldV P t x f = some v) (hx : VR ρ x x') (w : World) : ∃ v', (Instr.field t x' f).run P w = .ok v' w ∧ VR ρ v v' := by
  unfold fieldV at h
  split at h
  · obtain ⟨b, rfl, hb⟩ := hx.inv_agg
    cases hfs : structFields P t with
    | none => rw [hfs] at h; cases h
    | some fs =>
      rw [hfs] at h
      simp only at h
      cases h1 : fs[f]? with
      | none => rw [h1] at h; cases h
      | some fd =>
        rw [h1] at h
        obtain ⟨arr, hu, rfl⟩ := structFields_some hfs
        have h1' : arr[f]? = some fd := by simpa using h1
        obtain ⟨v', hr, hv⟩ := run_part h hb
        exact ⟨v', by simp only [Instr.field, Sem.run_bind, run_underlying hu, Result.andThen_ok, h1', asAgg, Sem.run_pure, hr], hv⟩
  · cases h
theorem run_boundsAt {k : IntKind} {n len : Nat} (h : n < len) (w : World) : (0 ≤ (n : Int) ∧ (n : Int) < (len : Int)) := ⟨Int.natCast_nonneg _, by omega⟩
theorem run_indexAddrV {t : TypeId} {x x' i i' v : Value} (h : indexAddrV P t x i = some v) (hx : VR ρ x x') (hi : VR ρ i i') (w : World) : ∃ v', (Instr.indexAt t x' i').run P w = .ok v' w ∧ VR ρ v v' := by
  unfold indexAddrV at h
  split at h
  · rename_i k n
    have e := hi.inv_int; subst e
    split at h
    · rename_i e b len c hu
      cases hs : sizeOf P e with
      | none => rw [hs] at h; cases h
      | some sz =>
        simp only [hs, Bool.cond_eq_ite, Nat.blt_eq] at h
        split at h
        · rename_i hn
          cases h
          cases hx with
          | slice hr hl hc hz hlit =>
            rename_i i o c' p
            refine ⟨.pointer (some ⟨p.b, p.s + (o + n * sz), none⟩), ?_, .ptr hr⟩
            have hb : (0 ≤ (n : Int) ∧ (n : Int) < (len : Int)) := ⟨Int.natCast_nonneg _, by omega⟩
            simp [Instr.indexAt, asIntOf, run_underlying hu, hn, run_size hs, addr_add, Nat.add_assoc]
          | noSlice hk hr => omega
        · cases h
    · rename_i len e b hu
      cases hs : sizeOf P e with
      | none => rw [hs] at h; cases h
      | some sz =>
        simp only [hs, Bool.cond_eq_ite, Nat.blt_eq] at h
        split at h
        · rename_i hn
          cases h
          obtain ⟨p, hp, hsp, rfl⟩ := hx.inv_ptr
          refine ⟨.pointer (some ⟨p.b, p.s + (b.off + n * sz), none⟩), ?_, .ptr hp⟩
          simp [Instr.indexAt, asIntOf, run_underlying hu, Instr.sureAddr, hn, run_size hs, addr_add, Nat.add_assoc]
        · cases h
    · cases h
  · cases h
theorem run_indexV {t : TypeId} {x x' i i' v : Value} (h : indexV P t x i = some v) (hx : VR ρ x x') (hi : VR ρ i i') (w : World) : ∃ v', (Instr.index t x' i').run P w = .ok v' w ∧ VR ρ v v' := by
  unfold indexV at h
  split at h
  · rename_i k n
    have e := hi.inv_int; subst e
    split at h
    · rename_i len e cs hu
      cases hs : sizeOf P e with
      | none => rw [hs] at h; cases h
      | some sz =>
        simp only [hs, Bool.cond_eq_ite, Nat.blt_eq] at h
        split at h
        · rename_i hn
          obtain ⟨b, rfl, hb⟩ := hx.inv_agg
          obtain ⟨v', hr, hv⟩ := run_part h hb
          exact ⟨v', by simp [Instr.index, asIntOf, run_underlying hu, hn, run_size hs, hr], hv⟩
        · cases h
    · rename_i s hu
      have e := hx.inv_string; subst e
      cases hb : s.data.toList[n]? with
      | none => rw [hb] at h; cases h
      | some b =>
        rw [hb] at h; cases h
        have hb' : s[n]? = some b := by
          have h1 : n < s.data.size := by have := (List.getElem?_eq_some_iff.1 hb).1; simpa using this
          have h2 : s.data[n] = b := by have := (List.getElem?_eq_some_iff.1 hb).2; simpa using this
          rw [getElem?_pos s n h1]; exact congrArg some h2
        exact ⟨_, by simp [Instr.index, asIntOf, run_underlying hu, hb'], .int _ _⟩
    · cases h
  · cases h
end
end
end Go.AM
