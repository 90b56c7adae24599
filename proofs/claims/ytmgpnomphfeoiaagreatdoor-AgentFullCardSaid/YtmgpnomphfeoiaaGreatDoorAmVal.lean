import Derived.Test.YtmgpnomphfeoiaaGreatDoorAmGrow2
import Derived.Laws.Entries
set_option linter.all false
namespace Go.AM
noncomputable section
section
variable {P : Program} {w : World}
theorem run_info {t : TypeId} {i : TypeInfo} (h : P.info? t = some i) : (Go.typeInfo t).run P w = .ok i w := by
  simp [Go.typeInfo, h]
theorem run_size {t : TypeId} {n : Nat} (h : sizeOf P t = some n) : (Go.sizeOf t).run P w = .ok n w := by
  unfold sizeOf at h
  cases hi : P.info? t with
  | none => rw [hi] at h; cases h
  | some i => rw [hi] at h; cases h; simp [Go.sizeOf, run_info hi]
theorem run_agg {t : TypeId} {b : Bool} (h : isAgg P t = some b) : (Go.isAgg t).run P w = .ok b w := by
  unfold isAgg at h
  cases hu : P.underlying t with
  | none => rw [hu] at h; cases h
  | some d => rw [hu] at h; cases d <;> cases h <;> simp [Go.isAgg, run_underlying hu]
theorem absCell_VR (ρ : Ren) {v z : Value} (h : absCell v = some z) : VR ρ z v := by
  cases v with
  | pointer a => cases a <;> simp [absCell] at h; subst h; exact .nilPtr
  | map a => cases a <;> simp [absCell] at h; subst h; exact .nilMap
  | chan a => cases a <;> simp [absCell] at h; subst h; exact .nilChan
  | slice a l c =>
    cases a with
    | some a => simp [absCell] at h
    | none =>
      simp only [absCell, Bool.cond_eq_ite, Bool.and_eq_true, Nat.beq_eq] at h
      split at h
      · rename_i hh; cases h; obtain ⟨rfl, rfl⟩ := hh; exact .nilSlice rfl rfl
      · cases h
  | bool b => simp [absCell] at h; subst h; exact .bool _
  | int k n => simp [absCell] at h; subst h; exact .int _ _
  | string s => simp [absCell] at h; subst h; exact .string _
  | nilFunc => simp [absCell] at h; subst h; exact .nilFunc
  | nilIface => simp [absCell] at h; subst h; exact .nilIface
  | _ => simp [absCell] at h
theorem absCells_VRs (ρ : Ren) : ∀ {vs zs : List Value}, absCells vs = some zs → VRs ρ zs vs
  | [], zs, h => by simp [absCells] at h; subst h; exact VRs.nil ρ
  | v :: vs, zs, h => by
    simp only [absCells] at h
    cases h1 : absCell v with
    | none => rw [h1] at h; cases h
    | some x =>
      rw [h1] at h
      cases h2 : absCells vs with
      | none => rw [h2] at h; cases h
      | some xs => rw [h2] at h; cases h; exact VRs.cons (absCell_VR ρ h1) (absCells_VRs ρ h2)
theorem VR.agg' {ρ : Ren} {a b : List Value} (h : VRs ρ a b) : VR ρ (.agg ⟨a⟩) (.agg ⟨b⟩) := .agg h.1 h.2
theorem VR.tuple' {ρ : Ren} {a b : List Value} (h : VRs ρ a b) : VR ρ (.tuple ⟨a⟩) (.tuple ⟨b⟩) := .tuple h.1 h.2
theorem VR.inv_agg {ρ : Ren} {a : Array Value} {v : Value} (h : VR ρ (.agg a) v) : ∃ b : Array Value, v = .agg b ∧ VRs ρ a.toList b.toList := by
  cases h with | agg ha h => exact ⟨_, rfl, ha, h⟩
theorem VR.inv_tuple {ρ : Ren} {a : Array Value} {v : Value} (h : VR ρ (.tuple a) v) : ∃ b : Array Value, v = .tuple b ∧ VRs ρ a.toList b.toList := by
  cases h with | tuple ha h => exact ⟨_, rfl, ha, h⟩
theorem VR.undef (ρ : Ren) : VR ρ undefV Go.undef := VR.tuple' (VRs.nil ρ)
theorem absZero_VR (ρ : Ren) {v z : Value} (h : absZero v = some z) : VR ρ z v := by
  cases v with
  | agg cs =>
    obtain ⟨cs⟩ := cs
    simp only [absZero] at h
    cases h1 : absCells cs with
    | none => rw [h1] at h; cases h
    | some xs => rw [h1] at h; cases h; exact VR.agg' (absCells_VRs ρ h1)
  | _ => exact absCell_VR ρ h
/-- A type's zero. -/
theorem run_zero (ρ : Ren) {t : TypeId} {z : Value} (h : zeroOf P t = some z) : ∃ v, (∀ w, (Go.zeroValue t).run P w = .ok v w) ∧ VR ρ z v := by
  unfold zeroOf at h
  cases hi : P.info? t with
  | none => rw [hi] at h; cases h
  | some i =>
    rw [hi] at h
    cases hz : i.zero with
    | none => simp [hz] at h
    | some v =>
      simp [hz] at h
      exact ⟨v, fun w => by simp [Go.zeroValue, run_info hi, hz], absZero_VR ρ h⟩
theorem cellsOf_VRs {ρ : Ren} {v v' : Value} (h : VR ρ v v') : VRs ρ (cellsOf v) v'.cells.toList := by
  cases h with
  | agg ha h => exact ⟨ha, h⟩
  | _ => exact VRs.cons (by first | exact .any ‹_› | exact .rng ‹_› ‹_› | exact .bool _ | exact .int _ _ | exact .string _ | exact .nilPtr | exact .ptr ‹_› | exact .nilSlice ‹_› ‹_› | exact .slice ‹_› ‹_› ‹_› ‹_› ‹_› | exact .noSlice ‹_› ‹_› | exact .nilMap | exact .map ‹_› | exact .nilChan | exact .nilFunc | exact .nilIface | exact .iface _ ‹_› | exact .func _ ‹_› ‹_› ‹_› ‹_› | exact .any ‹_› | exact .tuple ‹_› ‹_›) (VRs.nil ρ)
theorem addr_add (b o n : Nat) : (⟨b, o, none⟩ : Addr).add n = ⟨b, o + n, none⟩ := by unfold Addr.add; split <;> simp_all
/-- A part of a value that is made of cells. -/
theorem run_part {ρ : Ren} {t : TypeId} {cs : List Value} {cs' : Array Value} {off : Nat} {v : Value} (h : part P t cs off = some v) (hc : VRs ρ cs cs'.toList) :
    ∃ v', (∀ w, (Go.part t cs' off).run P w = .ok v' w) ∧ VR ρ v v' := by
  unfold part at h
  cases ha : isAgg P t with
  | none => rw [ha] at h; cases h
  | some b =>
    rw [ha] at h
    cases b with
    | true =>
      cases hs : sizeOf P t with
      | none => simp [hs] at h
      | some n =>
        simp only [hs] at h
        cases ht : takeCells cs off n with
        | none => rw [ht] at h; cases h
        | some l =>
          rw [ht] at h; cases h
          obtain ⟨h1, rfl⟩ := (takeCells_iff _ _ _ _).1 ht
          refine ⟨.agg (cs'.extract off (off + n)), fun w => by simp [Go.part, run_agg ha, run_size hs], ?_⟩
          have : (cs'.extract off (off + n)) = ⟨(cs'.toList.drop off).take n⟩ := by
            apply Array.ext'
            simp [List.extract_eq_take_drop]
          rw [this]
          exact VR.agg' ((hc.drop off).take n)
    | false =>
      cases ht : takeCells cs off 1 with
      | none => simp [ht] at h
      | some l =>
        obtain ⟨h1, rfl⟩ := (takeCells_iff _ _ _ _).1 ht
        have hx : cs[off]? = some (cs[off]'(by omega)) := List.getElem?_eq_getElem (by omega)
        have e : (cs.drop off).take 1 = [cs[off]'(by omega)] := by
          rw [List.drop_eq_getElem_cons (by omega)]; rfl
        simp only [ht, e] at h
        cases h
        obtain ⟨y, hy, hv⟩ := hc.get hx
        refine ⟨y, fun w => ?_, hv⟩
        have hy' : cs'[off]? = some y := by simpa using hy
        simp [Go.part, run_agg ha, hy']
end
/-- What a state says of memory, block by block, as far as the renaming goes. -/
def Local (ρ : Ren) (σ : St) (w : World) : Prop := ∀ i blk p, σ.get i = some blk → ρ i = some p → BR ρ p w blk.body
theorem Sim.local {B : Nat} {ρ : Ren} {σ : St} {w : World} (h : Sim B ρ σ w) : Local ρ σ w := fun i blk p hi hp => by
  obtain ⟨_, q, hq, hb⟩ := h.live i blk hi
  rw [hp] at hq; cases hq; exact hb
section
variable {P : Program} {w : World} {ρ : Ren} {σ : St}
theorem cells_get (hL : Local ρ σ w) {i o n : Nat} {l : List Value} (h : σ.cells i o n = some l) {p : Pl} (hp : ρ i = some p) :
    ∃ l', VRs ρ l l' ∧ l'.length = n ∧ l.length = n ∧ ∀ j v, l'[j]? = some v → w.cell? ⟨p.b, p.s + o + j, none⟩ = some v := by
  unfold St.cells at h
  cases hg : σ.get i with
  | none => rw [hg] at h; cases h
  | some blk =>
    obtain ⟨body, ch, sh⟩ := blk
    rw [hg] at h
    cases body with
    | map es => cases h
    | cells c =>
      obtain ⟨h1, rfl⟩ := (takeCells_iff _ _ _ _).1 h
      obtain ⟨l', g1, g2, g3⟩ := (hL i _ p hg hp).cell h1
      exact ⟨l', g1, g2, by rw [g1.1]; exact g2, g3⟩
theorem run_loadCells_at {p : Pl} {o n : Nat} {l' : List Value} (hl : l'.length = n) (h : ∀ j v, l'[j]? = some v → w.cell? ⟨p.b, p.s + o + j, none⟩ = some v) :
    (Go.loadCells ⟨p.b, p.s + o, none⟩ n).run P w = .ok ⟨l'⟩ w := by
  subst hl
  exact run_loadCells_list w _ l' (fun j v hj => by rw [addr_add]; exact h j v hj)
theorem run_loadVar (hL : Local ρ σ w) {t : TypeId} {i o : Nat} {v : Value} (h : loadVar P σ t i o = some v) {p : Pl} (hp : ρ i = some p) :
    ∃ v', (Go.loadVar t ⟨p.b, p.s + o, none⟩).run P w = .ok v' w ∧ VR ρ v v' := by
  unfold loadVar at h
  cases ha : isAgg P t with
  | none => rw [ha] at h; cases h
  | some b =>
    rw [ha] at h
    cases b with
    | true =>
      cases hs : sizeOf P t with
      | none => simp [hs] at h
      | some n =>
        simp only [hs] at h
        cases hc : σ.cells i o n with
        | none => rw [hc] at h; cases h
        | some l =>
          rw [hc] at h; cases h
          obtain ⟨l', g1, g2, _, g3⟩ := cells_get hL hc hp
          exact ⟨.agg ⟨l'⟩, by simp [Go.loadVar, run_agg ha, run_size hs, run_loadCells_at g2 g3], VR.agg' g1⟩
    | false =>
      cases hc : σ.cells i o 1 with
      | none => simp [hc] at h
      | some l =>
        obtain ⟨l', g1, g2, g4, g3⟩ := cells_get hL hc hp
        match l, g4 with
        | [x], _ =>
          simp only [hc] at h; cases h
          obtain ⟨y, a', rfl, hv, hr⟩ := g1.inv_cons
          have := hr.inv_nil; subst this
          have hy := g3 0 y rfl
          simp only [Nat.add_zero] at hy
          exact ⟨y, by simp [Go.loadVar, run_agg ha, hy], hv⟩
theorem run_storeVar {B : Nat} (hS : Sim B ρ σ w) {t : TypeId} {i o : Nat} {v v' : Value} {σ' : St} (h : storeVar P σ t i o v = some σ') (hv : VR ρ v v') {p : Pl} (hp : ρ i = some p) :
    ∃ w', (Go.storeVar t ⟨p.b, p.s + o, none⟩ v').run P w = .ok () w' ∧ Sim B ρ σ' w' ∧ Ext ρ σ w ρ σ' w' := by
  unfold storeVar at h
  cases hs : sizeOf P t with
  | none => rw [hs] at h; cases h
  | some n =>
    simp only [hs, Bool.cond_eq_ite, Nat.beq_eq] at h
    split at h
    · rename_i hn
      have hc := cellsOf_VRs hv
      obtain ⟨h1, h2, h3⟩ := hS.write hc h hp
      refine ⟨_, ?_, h2, h3⟩
      have : v'.cells.size = n := by rw [← hn, hc.1]; simp
      simp [Go.storeVar, run_size hs, this, h1]
    · cases h
end
end
end Go.AM
