import Derived.Test.YtlhdghpdifmccaaGreatDoorXDef
import Derived.Test.YtlhdghpdifmccaaGreatDoorProg
import Derived.Tactics
import Derived.Tactics2
import Derived.Defers
import Derived.Recover
import Derived.Laws.Pointers
import Derived.WalkKit
import Derived.Laws.NewBlocks
set_option linter.all false
namespace Go.Proofs
open Go.RowKit
theorem catch_idle (p : Addr) (w : World) :
    CallsD Tryz.prog 213 #[.pointer (some p)] .returning w fun e u' w' => e = .returned (.tuple #[]) ∧ u' = .returning ∧ w' = w := by
  refine callsD_of_wpS Tryz.func213 rfl fun c₀ cs hu => ?_
  apply wpS_seq
  apply wpS_region
  simp [wpOpsS, go_sem, recoverD, hu, Tryz.ntmps213, Exit.thenS]
  refine wpS_of_wp ?_
  go_wp2
  cases c₀
  simp_all [bodyPostS, results, Tryz.results213]
def CatchPost (b : Nat) (n : Int) (m : FrameMode) (w : World) (e : Ending) (u' : FrameMode) (w' : World) : Prop := e = .returned (.tuple #[]) ∧ u' = m ∧ ∃ o, w' = (w.setCell ⟨b, 0, none⟩ (.int .i64 n)).alloc o
set_option maxRecDepth 100000 in
set_option maxHeartbeats 400000 in
theorem catch_panicking (b : Nat) (x : Value) (w : World) (hc : w.cell? ⟨b, 0, none⟩ = some x) (hz : w.frozen? ⟨b, 0, none⟩ = false) (hb : b < w.heap.size) (n : Int) :
    CallsD Tryz.prog 213 #[.pointer (some ⟨b, 0, none⟩)] (.panicking [{ v := .iface 308 (.agg #[.int .i64 n]), recovered := false }]) w
      (CatchPost b n (.panicking [{ v := .iface 308 (.agg #[.int .i64 n]), recovered := true }]) w) := by
  have hta : ∀ w : World, (Instr.typeAssert (.iface 308 (.agg #[.int .i64 n])) 20 308 true).run Tryz.prog w = .ok (.tuple #[.agg #[.int .i64 n], .bool true]) w := fun w => by
    simp [Instr.typeAssert, run_underlying Tryz.underlying308]
  have hA : ∀ o, (w.alloc o).cell? ⟨b, 0, none⟩ = some x := fun o => (World.cell?_alloc_past _ _ _ hb).trans hc
  have hF : ∀ o, (w.alloc o).frozen? ⟨b, 0, none⟩ = false := fun o => by
    have : (w.alloc o).heap[b]? = w.heap[b]? := Below.heap_alloc _ _ b hb
    rw [← hz]; simp only [World.frozen?, this]
  have hne : ¬ b = w.heap.size := by omega
  clear hc hz
  refine callsD_of_wpS Tryz.func213 rfl fun c₀ cs hu => ?_
  apply wpS_seq
  apply wpS_region
  simp [wpOpsS, go_sem, recoverD, hu, Tryz.ntmps213, Exit.thenS]
  refine wpS_of_wp ?_
  clear hu
  simp only [Array.replicate_succ, Array.replicate_zero, List.push_toArray, List.append_toArray, List.nil_append, List.cons_append, List.setIfInBounds_toArray, List.set_cons_succ, List.set_cons_zero]
  go_wp2
  exact ⟨rfl, _, rfl, _, results_none rfl _ _ _, rfl, rfl, _, rfl⟩
end Go.Proofs
namespace Go.AM
open Go.Proofs Go.RowKit
theorem Ext.post {ρ ρ' : Ren} {σ σ' : St} {w w1 w2 : World} (E : Ext ρ σ w ρ' σ' w1) (hs : w1.heap.size ≤ w2.heap.size) (ho : w2.os = w1.os) (hu : w2.output = w1.output) (ht : w2.tape = w1.tape) (hk : ∀ b, b < w.heap.size → w2.heap[b]? = w1.heap[b]?) : Ext ρ σ w ρ' σ' w2 :=
  { E with size := Nat.le_trans E.size hs, os := ho.trans E.os, output := hu.trans E.output, tape := ht.trans E.tape, keep := fun b hb hn => (hk b hb).trans (E.keep b hb hn) }
theorem setCell_parts (w : World) (p : Addr) (v : Value) : (w.setCell p v).heap.size = w.heap.size ∧ (∀ b, b ≠ p.block → (w.setCell p v).heap[b]? = w.heap[b]?) ∧ (w.setCell p v).os = w.os ∧ (w.setCell p v).output = w.output ∧ (w.setCell p v).tape = w.tape := by
  refine ⟨by simp [World.setCell], fun b hb => ?_, rfl, rfl, rfl⟩
  simp [World.setCell, Array.getElem?_modify, Ne.symm hb]
set_option maxRecDepth 100000 in
theorem run_ok (B : Nat) (call : Caller) (hC : CallOK Tryz.prog B call) (args : List Value) (σ : St) (r : CRes) (h : runCall X call args σ = some r) (ρ : Ren) (w : World) (args' : Array Value) (hS : Sim B ρ σ w) (hB : B ≤ w.heap.size) (hv : VRs ρ args args'.toList) :
    Calls Tryz.prog 194 args' w (CPost B ρ σ w r) := by
  unfold runCall at h
  split at h
  case h_2 => cases h
  rename_i g first captured
  obtain ⟨f', l, e1, hf, hl⟩ := hv.inv_cons
  obtain rfl := hl.inv_nil
  obtain rfl : args' = #[f'] := by cases args'; simp at e1; simp [e1]
  obtain ⟨a', b', rfl, ha, hb⟩ := hf.inv_fn
  have hcap : VRs ρ (first.toList ++ captured.toList) (a' ++ b').toList := by simpa using ha.append hb
  cases hq : call g (first.toList ++ captured.toList) σ with
  | none => rw [hq] at h; cases h
  | some q =>
  rw [hq] at h
  obtain ⟨W, hW⟩ : ∃ W, w.alloc (.cells #[.int .i64 0] 69) = W := ⟨_, rfl⟩
  have hbel : Below w.heap.size w W := by rw [← hW]; exact (Below.refl _ w).alloc (Nat.le_refl _) _
  have hsz : W.heap.size = w.heap.size + 1 := by rw [← hW]; simp
  have hnew : W.heap[w.heap.size]? = some (.cells #[.int .i64 0] 69 (0, 0)) := by rw [← hW]; exact World.alloc_heap_new w _
  obtain ⟨hSW, hEW⟩ := hS.laterB hbel
  have HC := hC _ _ _ _ hq ρ W (a' ++ b') hSW (by omega) hcap
  -- behind the call: the box is as it was, and none of ours
  have box : ∀ ρ' σ' W', Ext ρ σ W ρ' σ' W' → W'.heap[w.heap.size]? = some (.cells #[.int .i64 0] 69 (0, 0)) ∧ ∀ j blk q, σ'.get j = some blk → ρ' j = some q → q.b ≠ w.heap.size := fun ρ' σ' W' hE => by
    refine ⟨(hE.keep _ (by omega) fun i blk p hi _ hp e => by have := (hS.dom i p hp).2; omega).trans hnew, fun j blk q hj hq e => ?_⟩
    rcases hE.shutAll j blk q hj hq with h1 | ⟨k, bk, pk, _, hpk, ek⟩
    · omega
    · have := (hS.dom k pk hpk).2; omega
  have hmf : ∀ (fn : Fn) (first cap : Array Value) (w : World), (Instr.makeFunc fn first cap).run Tryz.prog w = .ok (.func fn first cap) w := fun _ _ _ _ => rfl
  clear hq hsz hnew
  obtain ⟨bx, hbx⟩ : ∃ bx, w.heap.size = bx := ⟨_, rfl⟩
  rw [hbx] at box
  go_enter_defers Tryz.func194, Tryz.ntmps194
  go_wp2
  rename_i KK hKK K hK hA
  refine HC.2.mono ?_
  clear HC
  intro e W' hpost
  cases e with
  | returned v' =>
    cases q with
    | panic _ _ => exact hpost.elim
    | ret v0 σ' =>
      simp only [Option.some.injEq] at h
      subst h
      obtain ⟨ρ', hvr, hS', hE⟩ := hpost
      obtain ⟨hbox, hoff⟩ := box ρ' σ' W' hE
      have hcell : W'.cell? ⟨bx, 0, none⟩ = some (.int .i64 0) := by simp [World.cell?, hbox]
      have hfz : W'.frozen? ⟨bx, 0, none⟩ = false := by simp [World.frozen?, hbox]
      have hlt : bx < W'.heap.size := (Array.getElem?_eq_some_iff.1 hbox).1
      obtain ⟨s1, s2, s3, s4, s5⟩ := setCell_parts W' ⟨bx, 0, none⟩ (.int .i64 0)
      have hfin : CPost B ρ σ w (.ret (.int .i64 0) σ') (.returned (.int .i64 0)) (W'.setCell ⟨bx, 0, none⟩ (.int .i64 0)) :=
        ⟨ρ', .int _ _, hS'.off s1 s2 hoff, (hEW.trans hE).post (by omega) s3 s4 s5 (fun b hb => s2 b (by show b ≠ bx; omega))⟩
      clear hbox hoff s1 s2 s3 s4 s5 hS' hE hvr box hC hmf hEW hSW hbel hW
      show hK _ _
      apply hA
      show hKK _ _
      apply K
      clear hA K
      go_wp2
      refine leaves_cons (f := 213) (args := #[.pointer (some ⟨bx, 0, none⟩)]) (by simp) (by simp [go_sem]) ?_
      refine (catch_idle ⟨bx, 0, none⟩ _).mono ?_
      rintro e u' w'' ⟨rfl, rfl, rfl⟩
      refine ⟨.int .i64 0, ?_, hfin⟩
      have hc2 : (W'.setCell ⟨bx, 0, none⟩ (.int .i64 0)).cell? ⟨bx, 0, none⟩ = some (.int .i64 0) := by simp [go_sem, hcell]
      simp [results, Tryz.results194, go_sem, hc2]
  | panicked chain =>
    cases q with
    | ret _ _ => exact hpost.elim
    | panic vv σ' =>
      split at h
      · rename_i heq; cases heq
      · rename_i t cs σ2 heq
        cases heq
        simp only [Bool.cond_eq_ite, Nat.beq_eq] at h
        split at h
        case isFalse => cases h
        rename_i ht
        have ht' : t = 308 := ht
        subst ht'
        split at h
        case h_2 => cases h
        rename_i n hcs
        simp only [Option.some.injEq] at h
        subst h
        obtain ⟨ρ', v', rfl, hvr, hS', hE⟩ := hpost
        obtain ⟨y, rfl, hy⟩ := hvr.inv_iface
        obtain ⟨ys, rfl, hys⟩ := hy.inv_agg
        rw [hcs] at hys
        obtain ⟨y1, ys', hy1, hy2, hy3⟩ := hys.inv_cons
        obtain rfl := hy3.inv_nil
        have e2 := hy2.inv_int
        subst e2
        obtain rfl : ys = #[.int .i64 n] := by cases ys; simp at hy1; simp [hy1]
        obtain ⟨hbox, hoff⟩ := box ρ' σ' W' hE
        have hcell : W'.cell? ⟨bx, 0, none⟩ = some (.int .i64 0) := by simp [World.cell?, hbox]
        have hfz : W'.frozen? ⟨bx, 0, none⟩ = false := by simp [World.frozen?, hbox]
        have hlt : bx < W'.heap.size := (Array.getElem?_eq_some_iff.1 hbox).1
        have hWw := hE.size
        refine leaves_cons (f := 213) (args := #[.pointer (some ⟨bx, 0, none⟩)]) (by simp) (by simp [go_sem]) ?_
        refine (catch_panicking bx (.int .i64 0) W' hcell hfz hlt n).mono ?_
        rintro e u' w'' ⟨rfl, rfl, o, rfl⟩
        obtain ⟨s1, s2, s3, s4, s5⟩ := setCell_parts W' ⟨bx, 0, none⟩ (.int .i64 n)
        have hS2 := hS'.off s1 s2 hoff
        have hbel2 : Below (W'.setCell ⟨bx, 0, none⟩ (.int .i64 n)).heap.size (W'.setCell ⟨bx, 0, none⟩ (.int .i64 n)) ((W'.setCell ⟨bx, 0, none⟩ (.int .i64 n)).alloc o) := (Below.refl _ _).alloc (Nat.le_refl _) _
        refine ⟨.int .i64 n, ?_, ρ', .int _ _, (hS2.laterB hbel2).1, ((hEW.trans hE).post (w2 := W'.setCell ⟨bx, 0, none⟩ (.int .i64 n)) (by omega) s3 s4 s5 (fun b hb => s2 b (by show b ≠ bx; omega))).post hbel2.size hbel2.os hbel2.output hbel2.tape (fun b hb => hbel2.block b (by omega))⟩
        have hc2 : ((W'.setCell ⟨bx, 0, none⟩ (.int .i64 n)).alloc o).cell? ⟨bx, 0, none⟩ = some (.int .i64 n) := by
          refine (World.cell?_alloc_past _ _ _ (by show bx < _; omega)).trans ?_
          simp [go_sem, hcell]
        simp [results, Tryz.results194, go_sem, hc2]
      · cases h
  | outgrown => cases q <;> exact hpost.elim
end Go.AM
