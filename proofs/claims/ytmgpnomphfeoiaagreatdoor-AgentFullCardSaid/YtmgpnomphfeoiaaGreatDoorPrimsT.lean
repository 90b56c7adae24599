import Derived.Test.YtmgpnomphfeoiaaGreatDoorXDef
import Derived.Test.YtmgpnomphfeoiaaGreatDoorProg
import Derived.Tactics
import Derived.Tactics2
import Derived.Defers
import Derived.Recover
import Derived.Laws.Pointers
import Derived.WalkKit
import Derived.Laws.NewBlocks
import Derived.RangeFuncBox
import Derived.RangeFuncLeaves
import Derived.Shelf.Abstract
import Derived.OwnWalkIn
import Derived.TacticsInMore
import Derived.LoopNIn
import Derived.LoopIn
import Derived.Test.YtmgpnomphfeoiaaGreatDoorSortB
import Derived.Test.YtmgpnomphfeoiaaGreatDoorLay
import Derived.Test.YtmgpnomphfeoiaaGreatDoorBuildT
set_option linter.all false
namespace Go.Proofs
open Go.RowKit
theorem catch_idle (p : Addr) (w : World) :
    CallsD Tryz.prog 105 #[.pointer (some p)] .returning w fun e u' w' => e = .returned (.tuple #[]) ∧ u' = .returning ∧ w' = w := by
  refine callsD_of_wpS Tryz.func105 rfl fun c₀ cs hu => ?_
  apply wpS_seq
  apply wpS_region
  simp [wpOpsS, go_sem, recoverD, hu, Tryz.ntmps105, Exit.thenS]
  refine wpS_of_wp ?_
  go_wp2
  cases c₀
  simp_all [bodyPostS, results, Tryz.results105]
def CatchPost (b : Nat) (n : Int) (m : FrameMode) (w : World) (e : Ending) (u' : FrameMode) (w' : World) : Prop := e = .returned (.tuple #[]) ∧ u' = m ∧ ∃ o, w' = (w.setCell ⟨b, 0, none⟩ (.int .i64 n)).alloc o
set_option maxRecDepth 100000 in
set_option maxHeartbeats 400000 in
theorem catch_panicking (b : Nat) (x : Value) (w : World) (hc : w.cell? ⟨b, 0, none⟩ = some x) (hz : w.frozen? ⟨b, 0, none⟩ = false) (hb : b < w.heap.size) (n : Int) :
    CallsD Tryz.prog 105 #[.pointer (some ⟨b, 0, none⟩)] (.panicking [{ v := .iface 195 (.agg #[.int .i64 n]), recovered := false }]) w
      (CatchPost b n (.panicking [{ v := .iface 195 (.agg #[.int .i64 n]), recovered := true }]) w) := by
  have hta : ∀ w : World, (Instr.typeAssert (.iface 195 (.agg #[.int .i64 n])) 20 195 true).run Tryz.prog w = .ok (.tuple #[.agg #[.int .i64 n], .bool true]) w := fun w => by
    simp [Instr.typeAssert, run_underlying Tryz.underlying195]
  have hA : ∀ o, (w.alloc o).cell? ⟨b, 0, none⟩ = some x := fun o => (World.cell?_alloc_past _ _ _ hb).trans hc
  have hF : ∀ o, (w.alloc o).frozen? ⟨b, 0, none⟩ = false := fun o => by
    have : (w.alloc o).heap[b]? = w.heap[b]? := Below.heap_alloc _ _ b hb
    rw [← hz]; simp only [World.frozen?, this]
  have hne : ¬ b = w.heap.size := by omega
  clear hc hz
  refine callsD_of_wpS Tryz.func105 rfl fun c₀ cs hu => ?_
  apply wpS_seq
  apply wpS_region
  simp [wpOpsS, go_sem, recoverD, hu, Tryz.ntmps105, Exit.thenS]
  refine wpS_of_wp ?_
  clear hu
  simp only [Array.replicate_succ, Array.replicate_zero, List.push_toArray, List.append_toArray, List.nil_append, List.cons_append, List.setIfInBounds_toArray, List.set_cons_succ, List.set_cons_zero]
  go_wp2
  exact ⟨rfl, _, rfl, _, results_none rfl _ _ _, rfl, rfl, _, rfl⟩
end Go.Proofs
namespace Go.AM
open Go.Proofs Go.RowKit
theorem Ext.post {ρ ρ' : Ren} {σ σ' : St} {w w1 w2 : World} (E : Ext ρ σ w ρ' σ' w1) (hs : w1.heap.size ≤ w2.heap.size) (ho : w2.os = w1.os) (hu : w2.output = w1.output) (ht : w2.tape = w1.tape) (hk : ∀ b, b < w.heap.size → w2.heap[b]? = w1.heap[b]?) : Ext ρ σ w ρ' σ' w2 :=
  { E with size := Nat.le_trans E.size hs, os := ho.trans E.os, output := hu.trans E.output, tape := ht.trans E.tape, keep := fun b hb hn => (hk b hb).trans (E.keep b hb hn) }
theorem setCell_parts (w : World) (p : Addr) (v : Value) : (w.setCell p v).heap.size = w.heap.size ∧ (∀ b, b ≠ p.block → (w.setCell p v).heap[b]? = w.heap[b]?) ∧ (w.setCell p v).os = w.os ∧ (w.setCell p v).output = w.output ∧ (w.setCell p v).tape = w.tape := by
  refine ⟨by simp [World.setCell], fun b hb => ?_, rfl, rfl, rfl⟩
  simp [World.setCell, Array.getElem?_modify, Ne.symm hb]
set_option maxRecDepth 100000 in
theorem run_ok (B : Nat) (call : Caller) (hC : CallOK Tryz.prog B call) (args : List Value) (σ : St) (r : CRes) (h : runCall X call args σ = some r) (ρ : Ren) (w : World) (args' : Array Value) (hS : Sim B ρ σ w) (hB : B ≤ w.heap.size) (hv : VRs ρ args args'.toList) :
    Calls Tryz.prog 55 args' w (CPost B ρ σ w r) := by
  unfold runCall at h
  split at h
  case h_2 => cases h
  rename_i g first captured
  obtain ⟨f', l, e1, hf, hl⟩ := hv.inv_cons
  obtain rfl := hl.inv_nil
  obtain rfl : args' = #[f'] := by cases args'; simp at e1; simp [e1]
  obtain ⟨a', b', rfl, ha, hb⟩ := hf.inv_fn
  have hcap : VRs ρ (first.toList ++ captured.toList) (a' ++ b').toList := by simpa using ha.append hb
  cases hq : call g (first.toList ++ captured.toList) σ with
  | none => rw [hq] at h; cases h
  | some q =>
  rw [hq] at h
  obtain ⟨W, hW⟩ : ∃ W, w.alloc (.cells #[.int .i64 0] 30) = W := ⟨_, rfl⟩
  have hbel : Below w.heap.size w W := by rw [← hW]; exact (Below.refl _ w).alloc (Nat.le_refl _) _
  have hsz : W.heap.size = w.heap.size + 1 := by rw [← hW]; simp
  have hnew : W.heap[w.heap.size]? = some (.cells #[.int .i64 0] 30 (0, 0)) := by rw [← hW]; exact World.alloc_heap_new w _
  obtain ⟨hSW, hEW⟩ := hS.laterB hbel
  have HC := hC _ _ _ _ hq ρ W (a' ++ b') hSW (by omega) hcap
  -- behind the call: the box is as it was, and none of ours
  have box : ∀ ρ' σ' W', Ext ρ σ W ρ' σ' W' → W'.heap[w.heap.size]? = some (.cells #[.int .i64 0] 30 (0, 0)) ∧ ∀ j blk q, σ'.get j = some blk → ρ' j = some q → q.b ≠ w.heap.size := fun ρ' σ' W' hE => by
    refine ⟨(hE.keep _ (by omega) fun i blk p hi _ hp e => by have := (hS.dom i p hp).2; omega).trans hnew, fun j blk q hj hq e => ?_⟩
    rcases hE.shutAll j blk q hj hq with h1 | ⟨k, bk, pk, _, hpk, ek⟩
    · omega
    · have := (hS.dom k pk hpk).2; omega
  have hmf : ∀ (fn : Fn) (first cap : Array Value) (w : World), (Instr.makeFunc fn first cap).run Tryz.prog w = .ok (.func fn first cap) w := fun _ _ _ _ => rfl
  clear hq hsz hnew
  obtain ⟨bx, hbx⟩ : ∃ bx, w.heap.size = bx := ⟨_, rfl⟩
  rw [hbx] at box
  go_enter_defers Tryz.func55, Tryz.ntmps55
  go_wp2
  rename_i KK hKK K hK hA
  refine HC.2.mono ?_
  clear HC
  intro e W' hpost
  cases e with
  | returned v' =>
    cases q with
    | panic _ _ => exact hpost.elim
    | ret v0 σ' =>
      simp only [Option.some.injEq] at h
      subst h
      obtain ⟨ρ', hvr, hS', hE⟩ := hpost
      obtain ⟨hbox, hoff⟩ := box ρ' σ' W' hE
      have hcell : W'.cell? ⟨bx, 0, none⟩ = some (.int .i64 0) := by simp [World.cell?, hbox]
      have hfz : W'.frozen? ⟨bx, 0, none⟩ = false := by simp [World.frozen?, hbox]
      have hlt : bx < W'.heap.size := (Array.getElem?_eq_some_iff.1 hbox).1
      obtain ⟨s1, s2, s3, s4, s5⟩ := setCell_parts W' ⟨bx, 0, none⟩ (.int .i64 0)
      have hfin : CPost B ρ σ w (.ret (.int .i64 0) σ') (.returned (.int .i64 0)) (W'.setCell ⟨bx, 0, none⟩ (.int .i64 0)) :=
        ⟨ρ', .int _ _, hS'.off s1 s2 hoff, (hEW.trans hE).post (by omega) s3 s4 s5 (fun b hb => s2 b (by show b ≠ bx; omega))⟩
      clear hbox hoff s1 s2 s3 s4 s5 hS' hE hvr box hC hmf hEW hSW hbel hW
      show hK _ _
      apply hA
      show hKK _ _
      apply K
      clear hA K
      go_wp2
      refine leaves_cons (f := 105) (args := #[.pointer (some ⟨bx, 0, none⟩)]) (by simp) (by simp [go_sem]) ?_
      refine (catch_idle ⟨bx, 0, none⟩ _).mono ?_
      rintro e u' w'' ⟨rfl, rfl, rfl⟩
      refine ⟨.int .i64 0, ?_, hfin⟩
      have hc2 : (W'.setCell ⟨bx, 0, none⟩ (.int .i64 0)).cell? ⟨bx, 0, none⟩ = some (.int .i64 0) := by simp [go_sem, hcell]
      simp [results, Tryz.results55, go_sem, hc2]
  | panicked chain =>
    cases q with
    | ret _ _ => exact hpost.elim
    | panic vv σ' =>
      split at h
      · rename_i heq; cases heq
      · rename_i t cs σ2 heq
        cases heq
        simp only [Bool.cond_eq_ite, Nat.beq_eq] at h
        split at h
        case isFalse => cases h
        rename_i ht
        have ht' : t = 195 := ht
        subst ht'
        split at h
        case h_2 => cases h
        rename_i n hcs
        simp only [Option.some.injEq] at h
        subst h
        obtain ⟨ρ', v', rfl, hvr, hS', hE⟩ := hpost
        obtain ⟨y, rfl, hy⟩ := hvr.inv_iface
        obtain ⟨ys, rfl, hys⟩ := hy.inv_agg
        rw [hcs] at hys
        obtain ⟨y1, ys', hy1, hy2, hy3⟩ := hys.inv_cons
        obtain rfl := hy3.inv_nil
        have e2 := hy2.inv_int
        subst e2
        obtain rfl : ys = #[.int .i64 n] := by cases ys; simp at hy1; simp [hy1]
        obtain ⟨hbox, hoff⟩ := box ρ' σ' W' hE
        have hcell : W'.cell? ⟨bx, 0, none⟩ = some (.int .i64 0) := by simp [World.cell?, hbox]
        have hfz : W'.frozen? ⟨bx, 0, none⟩ = false := by simp [World.frozen?, hbox]
        have hlt : bx < W'.heap.size := (Array.getElem?_eq_some_iff.1 hbox).1
        have hWw := hE.size
        refine leaves_cons (f := 105) (args := #[.pointer (some ⟨bx, 0, none⟩)]) (by simp) (by simp [go_sem]) ?_
        refine (catch_panicking bx (.int .i64 0) W' hcell hfz hlt n).mono ?_
        rintro e u' w'' ⟨rfl, rfl, o, rfl⟩
        obtain ⟨s1, s2, s3, s4, s5⟩ := setCell_parts W' ⟨bx, 0, none⟩ (.int .i64 n)
        have hS2 := hS'.off s1 s2 hoff
        have hbel2 : Below (W'.setCell ⟨bx, 0, none⟩ (.int .i64 n)).heap.size (W'.setCell ⟨bx, 0, none⟩ (.int .i64 n)) ((W'.setCell ⟨bx, 0, none⟩ (.int .i64 n)).alloc o) := (Below.refl _ _).alloc (Nat.le_refl _) _
        refine ⟨.int .i64 n, ?_, ρ', .int _ _, (hS2.laterB hbel2).1, ((hEW.trans hE).post (w2 := W'.setCell ⟨bx, 0, none⟩ (.int .i64 n)) (by omega) s3 s4 s5 (fun b hb => s2 b (by show b ≠ bx; omega))).post hbel2.size hbel2.os hbel2.output hbel2.tape (fun b hb => hbel2.block b (by omega))⟩
        have hc2 : ((W'.setCell ⟨bx, 0, none⟩ (.int .i64 n)).alloc o).cell? ⟨bx, 0, none⟩ = some (.int .i64 n) := by
          refine (World.cell?_alloc_past _ _ _ (by show bx < _; omega)).trans ?_
          simp [go_sem, hcell]
        simp [results, Tryz.results55, go_sem, hc2]
      · cases h
  | outgrown => cases q <;> exact hpost.elim
end Go.AM

namespace Go.Proofs
open Go.RowKit Go.Shelf

attribute [local go_sem] Oper.semAt_some

/-- WHAT HAS COME WHEN k ROUNDS ARE OVER: f 0, .., f (k - 1). -/
def Vals.upto {α : Type} (f : Nat → α) (k : Nat) : List α := (List.range k).map f
theorem Vals.upto_succ {α : Type} (f : Nat → α) (k : Nat) : Vals.upto f (k + 1) = Vals.upto f k ++ [f k] := by simp [Vals.upto, List.range_succ]
theorem Vals.upto_length {α : Type} (f : Nat → α) (k : Nat) : (Vals.upto f k).length = k := by simp [Vals.upto]
theorem Vals.upto_all (zs : List Int) : Vals.upto (fun j => zs[j]?.getD 0) zs.length = zs := by
  apply List.ext_getElem
  · simp [Vals.upto]
  · intro i h1 h2
    simp [Vals.upto, h2]

set_option maxRecDepth 100000 in
set_option maxHeartbeats 2000000 in

theorem Vals.values1B_in (F : Fence) (n : Nat) (h7 : F.fn 183) (hro : F.round = none) (hn : 1 ≤ n) (l Bs os n₀ b off len cap : Nat) (zs : List Int) (hreach : len * 8 ≤ 140737488351232) (hb : b < n₀) (J : List Int → World → Prop) (W0 : World) (hJB : ∀ pre W1, J pre W1 → Below n₀ W0 W1)
    (hY : ∀ pre x W, J pre W → pre.length < len → YieldAt F (n - 1) Tryz.prog l #[.int .i64 x] W fun e W' =>
      e = .returned (.bool true) ∧ J (pre ++ [x]) W' ∧ KeepsWalks W W')
    (W : World) (hBs : W.cell? ⟨Bs, os, none⟩ = some (.slice (some ⟨b, off, none⟩) len cap)) (hc : ∀ j, j < len → W0.cell? ⟨b, off + j, none⟩ = some (.int .i64 (zs[j]?.getD 0))) (h0 : J [] W) :
    CallsIn F n Tryz.prog 183 #[.func (.yield l) #[] #[], .pointer (some ⟨Bs, os, none⟩)] W fun e W' => (∃ v, e = .returned v) ∧
      J (Vals.upto (fun j => zs[j]?.getD 0) len) W' := by
  refine callsIn_of_wp Tryz.func183 rfl h7 ?_ hro
  simp only [Tryz.ntmps183, List.size_toArray, List.length_cons, List.length_nil, Nat.reduceAdd, Nat.reduceSub, Array.replicate_succ, Array.replicate_zero, List.push_toArray, List.append_toArray, List.nil_append, List.cons_append]
  gi_wp2
  gi_loopw [7] (fun i wr => ∃ k : Nat, k ≤ len ∧ i = .int .i64 k ∧ J (Vals.upto (fun j => zs[j]?.getD 0) k) wr)
    (fun i _ => len - (match i with | Value.int _ n => n | _ => 0).toNat)
  case atStart => exact ⟨0, Nat.zero_le _, rfl, h0⟩
  case round =>
    obtain ⟨k, hk, rfl, hJs⟩ := hrel
    have hnx := hJB _ _ hJs
    have hcx : k < len → wr.cell? ⟨b, off + k, none⟩ = some (.int .i64 (zs[k]?.getD 0)) := fun h => (hnx.cell (p := ⟨b, off + k, none⟩) hb).trans (hc k h)
    by_cases hlt : k < len
    · obtain ⟨fn, tmps, assign, body, hy, hR⟩ := hY _ (zs[k]?.getD 0) wr hJs (by rw [Vals.upto_length]; exact hlt)
      have hcx' := hcx hlt
      gi_wp2
      refine hR.mono ?_
      rintro e W3 ⟨rfl, hJ3, hk3⟩
      gi_wp2
      go_roundw
      case rel => exact ⟨k + 1, by omega, by simp, by rw [Vals.upto_succ]; exact hJ3⟩
      case measure => simp; omega
    · obtain rfl : k = len := by omega
      gi_wp2
      go_end0
      exact ⟨⟨_, rfl⟩, hJs⟩

/-- THE SLICE VALUE sv HOLDS THE ints zs, in a block below n₀; or it is nil and there are none. -/
def Vals.Ints (n₀ : Nat) (W : World) (sv : Value) (zs : List Int) : Prop :=
  (∃ a cap, sv = .slice a 0 cap ∧ zs = []) ∨ ∃ b off cap, sv = .slice (some ⟨b, off, none⟩) zs.length cap ∧ b < n₀ ∧ ∀ j, j < zs.length → W.cell? ⟨b, off + j, none⟩ = some (.int .i64 (zs[j]?.getD 0))
theorem Vals.Ints.below {n₀ : Nat} {A B : World} (h : Below n₀ A B) {sv : Value} {zs : List Int} : Vals.Ints n₀ A sv zs → Vals.Ints n₀ B sv zs
  | .inl e => .inl e
  | .inr ⟨b, off, cap, e, hb, hc⟩ => .inr ⟨b, off, cap, e, hb, fun j hj => (h.cell (p := ⟨b, off + j, none⟩) hb).trans (hc j hj)⟩

set_option maxRecDepth 100000 in
set_option maxHeartbeats 1000000 in
/-- .. at the nil slice: no round. -/
theorem Vals.values1_nil_in (F : Fence) (n : Nat) (h7 : F.fn 183) (hro : F.round = none) (l Bs os : Nat) (J : List Int → World → Prop) (W : World) (a : Option Addr) (cap : Nat) (hBs : W.cell? ⟨Bs, os, none⟩ = some (.slice a 0 cap)) (h0 : J [] W) :
    CallsIn F n Tryz.prog 183 #[.func (.yield l) #[] #[], .pointer (some ⟨Bs, os, none⟩)] W fun e W' => (∃ v, e = .returned v) ∧ J [] W' := by
  refine callsIn_of_wp Tryz.func183 rfl h7 ?_ hro
  simp only [Tryz.ntmps183, List.size_toArray, List.length_cons, List.length_nil, Nat.reduceAdd, Nat.reduceSub, Array.replicate_succ, Array.replicate_zero, List.push_toArray, List.append_toArray, List.nil_append, List.cons_append]
  gi_wp2
  gi_loopw [7] (fun i wr => i = .int .i64 0 ∧ J [] wr) (fun _ _ => 0)
  case atStart => exact ⟨rfl, h0⟩
  case round =>
    obtain ⟨rfl, hJs⟩ := hrel
    gi_wp2
    go_end0
    exact ⟨⟨_, rfl⟩, hJs⟩


theorem Vals.gives (F : Fence) (n : Nat) (h7 : F.fn 183) (hro : F.round = none) (hn : 1 ≤ n) (Bs os : Nat) (sv : Value) (zs : List Int) (hreach : zs.length * 8 ≤ 140737488351232) (w : World) (hBs : Bs < w.heap.size)
    (hc : w.cell? ⟨Bs, os, none⟩ = some sv) (hI : Vals.Ints w.heap.size w sv zs) :
    SeqGivesB F n Tryz.prog 183 #[.pointer (some ⟨Bs, os, none⟩)] (fun x : Int => Value.int .i64 x) (fun ys => ys = zs) zs.length w := fun l J W hW _ hB hY h0 => by
  have hc' := (hW.cell (p := ⟨Bs, os, none⟩) hBs).trans hc
  rcases hI with ⟨a, cap, rfl, rfl⟩ | ⟨b, off, cap, rfl, hb, hcs⟩
  · exact (Vals.values1_nil_in F n h7 hro l Bs os J W a cap hc' h0).mono fun e W' ⟨he, hj⟩ => ⟨he, _, rfl, hj⟩
  · refine (Vals.values1B_in F n h7 hro hn l Bs os w.heap.size b off zs.length cap zs hreach hb J w hB hY W hc' hcs h0).mono ?_
    rintro e W' ⟨he, hj⟩
    exact ⟨he, _, Vals.upto_all zs, hj⟩

end Go.Proofs

namespace Go.AM
open Go.Proofs Go.RowKit Go.Maps Go.Sort Go.Shelf
theorem sortsS (m : Nat) : AnyZ.SortsIn Tryz.prog Tryz.sortedS_ren Fence.wide m :=
  ⟨fun blk off cap ss W hH hblk hsz => callsIn_wide.2 (AnyM.slices_Sort_string Tryz.sortS blk off cap ss W hH hblk hsz),
   fun p cap W => callsIn_wide.2 (AnyM.slices_Sort_string_none Tryz.sortS p cap W)⟩
theorem sortsI (m : Nat) : AnyZI.SortsIn Tryz.prog Tryz.sortedI_ren Fence.wide m :=
  ⟨fun blk off cap ss W hH hblk hsz => callsIn_wide.2 (AnyM.slices_Sort_int Tryz.sortI blk off cap ss W hH hblk hsz),
   fun p cap W => callsIn_wide.2 (AnyM.slices_Sort_int_none Tryz.sortI p cap W)⟩
theorem okey : Tryz.prog.underlying 9 = some .string := by kernel_rfl
/-- maps.Keys' iterators: the keys come, in some order. -/
theorem gives {n : Nat} (hn : 1 ≤ n) {g : Nat} (hg : g ∈ strIters) {w : World} {b o : Nat} {v' : Value} (hb : b < w.heap.size) (hc : w.cell? ⟨b, o, none⟩ = some v') {l : List (List UInt8)}
    (h : (v' = .map none ∧ l = []) ∨ ∃ b n, ∃ D : DataW Unit, v' = .map (some b) ∧ w.ownsMap Tryz.prog 9 plainR b n D ∧ (strKeys D).Perm l ∧ Maps.size D = l.length) :
    SeqGives Fence.wide n Tryz.prog g #[.pointer (some ⟨b, o, none⟩)] encStr (fun ss => ss.Perm l) l.length w ∧ (∀ args w, (callFunc g args).run Tryz.prog w = .ok (.enter g args) w) := by
  have weak : ∀ {N : Nat} {S : List (List UInt8) → Prop}, SeqGives Fence.wide n Tryz.prog g #[.pointer (some ⟨b, o, none⟩)] encStr S N w → N = l.length → (∀ ss, S ss → ss.Perm l) → SeqGives Fence.wide n Tryz.prog g #[.pointer (some ⟨b, o, none⟩)] encStr (fun ss => ss.Perm l) l.length w := by
    intro N S hs hN hS
    subst hN
    intro l' J W hW hJ hY h0
    exact (hs l' J W hW hJ hY h0).mono fun e W' ⟨hv, xs, h1, h2⟩ => ⟨hv, xs, hS xs h1, h2⟩
  simp only [strIters, List.mem_cons, List.not_mem_nil, or_false] at hg
  rcases hg with rfl | rfl | rfl | rfl
  · refine ⟨?_, enters_of Tryz.func139 (by kernel_rfl) rfl⟩
    rcases h with ⟨rfl, rfl⟩ | ⟨bm, nm, D, rfl, hown, hp, hs⟩
    · exact weak (KeysO.keys_gives_nil (ρ := Tryz.keysA_ren) { Tryz.keysA with } Fence.wide _ trivial rfl b o w hb hc) rfl (fun ss h => by rw [h])
    · exact weak (KeysO.keys_gives (ρ := Tryz.keysA_ren) { Tryz.keysA with } Fence.wide _ trivial rfl hn b o bm nm D w hb hc hown) hs (fun ss h => h.trans hp)
  · refine ⟨?_, enters_of Tryz.func174 (by kernel_rfl) rfl⟩
    rcases h with ⟨rfl, rfl⟩ | ⟨bm, nm, D, rfl, hown, hp, hs⟩
    · exact weak (KeysO.keys_gives_nil (ρ := Tryz.keysB_ren) { Tryz.keysB with } Fence.wide _ trivial rfl b o w hb hc) rfl (fun ss h => by rw [h])
    · exact weak (KeysO.keys_gives (ρ := Tryz.keysB_ren) { Tryz.keysB with } Fence.wide _ trivial rfl hn b o bm nm D w hb hc hown) hs (fun ss h => h.trans hp)
  · refine ⟨?_, enters_of Tryz.func222 (by kernel_rfl) rfl⟩
    rcases h with ⟨rfl, rfl⟩ | ⟨bm, nm, D, rfl, hown, hp, hs⟩
    · exact weak (KeysO.keys_gives_nil (ρ := Tryz.keysC_ren) { Tryz.keysC with } Fence.wide _ trivial rfl b o w hb hc) rfl (fun ss h => by rw [h])
    · exact weak (KeysO.keys_gives (ρ := Tryz.keysC_ren) { Tryz.keysC with } Fence.wide _ trivial rfl hn b o bm nm D w hb hc hown) hs (fun ss h => h.trans hp)
  · refine ⟨?_, enters_of Tryz.func236 (by kernel_rfl) rfl⟩
    rcases h with ⟨rfl, rfl⟩ | ⟨bm, nm, D, rfl, hown, hp, hs⟩
    · exact weak (KeysO.keys_gives_nil (ρ := Tryz.keysD_ren) { Tryz.keysD with } Fence.wide _ trivial rfl b o w hb hc) rfl (fun ss h => by rw [h])
    · exact weak (KeysO.keys_gives (ρ := Tryz.keysD_ren) { Tryz.keysD with } Fence.wide _ trivial rfl hn b o bm nm D w hb hc hown) hs (fun ss h => h.trans hp)
theorem one_arg {ρ : Ren} {f : Value} {args' : Array Value} (h : VRs ρ [f] args'.toList) : ∃ f', args' = #[f'] ∧ VR ρ f f' := by
  obtain ⟨f', l, e1, hf, hl⟩ := h.inv_cons
  obtain rfl := hl.inv_nil
  exact ⟨f', by cases args'; simp at e1; simp [e1], hf⟩
theorem strRow_enc (l : List (List UInt8)) : l.map encStr = strRow l := rfl
theorem intRow_enc (l : List Int) : l.map encZ = intRow l := rfl
theorem sortB_length (l : List (List UInt8)) : (sortB l).length = l.length := (sortB_perm l).length_eq
theorem sortI_length (l : List Int) : (sortI l).length = l.length := (sortI_perm l).length_eq
theorem find_sortedS {B : Nat} {σ σ' : St} {f v : Value} (h : sortedKeys strIters σ f = some (v, σ')) {ρ : Ren} {w : World} {args' : Array Value} (hS : Sim B ρ σ w) (hB : B ≤ w.heap.size) (hv : VRs ρ [f] args'.toList) :
    Calls Tryz.prog 88 args' w (CPost B ρ σ w (.ret v σ')) := by
  obtain ⟨f', rfl, hf⟩ := one_arg hv
  unfold sortedKeys at h
  cases hb : boxOf strIters σ f with
  | none => rw [hb] at h; cases h
  | some u =>
    rw [hb] at h
    dsimp only at h
    cases hk : keysIn σ u with
    | none => rw [hk] at h; cases h
    | some l =>
      rw [hk] at h
      simp only [Option.some.injEq] at h
      obtain ⟨g, b, o, u', hg, rfl, hcell, hu, hlt⟩ := box_ok hS hb hf
      obtain ⟨hl, hd⟩ := keysIn_ok okey hS hk hu
      obtain ⟨hgive, hent⟩ := gives (n := 2) (by omega) hg hlt hcell hd
      have cS := AnyZ.sorted_in Tryz.sortedS Fence.wide 5 trivial trivial trivial trivial rfl (by omega) (sortsS _) (enters_of Tryz.func138 (by kernel_rfl) rfl) g #[.pointer (some ⟨b, o, none⟩)] trivial hent _ _ (by unfold maxLen; omega) (by omega) w hgive
      refine (callsIn_wide.1 cS).mono ?_
      rintro e w' ⟨v', ss, rfl, hp, hrow, hnil, hbel⟩
      rw [sortB_eq hp, strRow_enc] at hrow
      rw [show v = (madeOf σ (strRow (sortB l))).1 by rw [h], show σ' = (madeOf σ (strRow (sortB l))).2 by rw [h]]
      refine made_row hS hB hbel hrow (fun e => hnil.2 ?_) (fun ρ' => strRow_flat _ ρ') ?_
      · have h1 := congrArg List.length e
        simp only [strRow, List.length_map, sortB_length, List.length_nil] at h1
        exact List.eq_nil_of_length_eq_zero (hp.length_eq.trans h1)
      · simp [isSmall, strRow, sortB_length, hl]
theorem find_sortedI {B : Nat} {σ σ' : St} {f v : Value} (h : sortedInts [183] σ f = some (v, σ')) {ρ : Ren} {w : World} {args' : Array Value} (hS : Sim B ρ σ w) (hB : B ≤ w.heap.size) (hv : VRs ρ [f] args'.toList) :
    Calls Tryz.prog 150 args' w (CPost B ρ σ w (.ret v σ')) := by
  obtain ⟨f', rfl, hf⟩ := one_arg hv
  unfold sortedInts at h
  cases hb : boxOf [183] σ f with
  | none => rw [hb] at h; cases h
  | some u =>
    rw [hb] at h
    dsimp only at h
    cases hk : intsIn σ u with
    | none => rw [hk] at h; cases h
    | some zs =>
      rw [hk] at h
      simp only [Option.some.injEq] at h
      obtain ⟨g, b, o, u', hg, rfl, hcell, hu, hlt⟩ := box_ok hS hb hf
      obtain rfl : g = 183 := by simpa using hg
      have hI : zs.length ≤ 1048576 ∧ Vals.Ints w.heap.size w u' zs := by
        unfold intsIn at hk
        split at hk
        · split at hk
          · rename_i hl0
            cases hk
            rw [Nat.beq_eq] at hl0
            refine ⟨by simp, .inl ?_⟩
            cases hu with
            | nilSlice _ _ => exact ⟨none, 0, rfl, rfl⟩
          · cases hk
        · rename_i bb oo nn kk
          split at hk
          · rename_i hsm
            cases hcs : σ.cells bb oo nn with
            | none => rw [hcs] at hk; cases hk
            | some cs =>
              rw [hcs] at hk
              have hrow := intsOf_row hk
              cases hu with
              | noSlice hk0 hr =>
                rename_i a
                have : cs.length = 0 := by
                  obtain ⟨p, hp⟩ := Option.isSome_iff_exists.1 hr
                  obtain ⟨_, _, _, h3, _⟩ := cells_get hS.local hcs hp
                  exact h3
                obtain rfl := List.eq_nil_of_length_eq_zero this
                cases zs with
                | nil => exact ⟨by simp, .inl ⟨_, _, rfl, rfl⟩⟩
                | cons z zs => cases hrow
              | slice hr hl hc hz hm =>
                rename_i c p
                obtain ⟨l', h1, h2, h3, h4⟩ := cells_get hS.local hcs hr
                subst hrow
                have h1' := h1.intRow_eq
                subst h1'
                have hlen : zs.length = nn := by simpa [intRow] using h3
                refine ⟨by rw [hlen]; simpa [isSmall] using hsm, .inr ⟨p.b, p.s + oo, c, by rw [hlen], (hS.dom bb p hr).2, fun j hj => ?_⟩⟩
                exact h4 j _ (by simp [intRow, List.getElem?_map, List.getElem?_eq_getElem hj])
          · cases hk
        · cases hk
      obtain ⟨hl, hI⟩ := hI
      have hgive := Vals.gives Fence.wide 2 trivial rfl (by omega) b o u' zs (by omega) w hlt hcell hI
      have cS := IntsB.sorted_in Tryz.sortedI Fence.wide 5 trivial trivial trivial trivial rfl (by omega) (sortsI _) (enters_of Tryz.func182 (by kernel_rfl) rfl) 183 #[.pointer (some ⟨b, o, none⟩)] trivial (enters_of Tryz.func183 (by kernel_rfl) rfl) _ _ (by unfold maxLen; omega) (by omega) w hgive
      refine (callsIn_wide.1 cS).mono ?_
      rintro e w' ⟨v', ss, rfl, rfl, hrow, hnil, hbel⟩
      rw [sortI_eq (List.Perm.refl _), intRow_enc] at hrow
      rw [show v = (madeOf σ (intRow (sortI ss))).1 by rw [h], show σ' = (madeOf σ (intRow (sortI ss))).2 by rw [h]]
      refine made_row hS hB hbel hrow (fun e => hnil.2 ?_) (fun ρ' => intRow_flat _ ρ') ?_
      · have h1 := congrArg List.length e
        simp only [intRow, List.length_map, sortI_length, List.length_nil] at h1
        exact List.eq_nil_of_length_eq_zero h1
      · simp [isSmall, intRow, sortI_length, hl]
theorem find_collect {B : Nat} {σ σ' : St} {f v : Value} (h : oneKey strIters σ f = some (v, σ')) {ρ : Ren} {w : World} {args' : Array Value} (hS : Sim B ρ σ w) (hB : B ≤ w.heap.size) (hv : VRs ρ [f] args'.toList) :
    Calls Tryz.prog 137 args' w (CPost B ρ σ w (.ret v σ')) := by
  obtain ⟨f', rfl, hf⟩ := one_arg hv
  unfold oneKey at h
  cases hb : boxOf strIters σ f with
  | none => rw [hb] at h; cases h
  | some u =>
    rw [hb] at h
    dsimp only at h
    cases hk : keysIn σ u with
    | none => rw [hk] at h; cases h
    | some l =>
      rw [hk] at h
      have hone : madeOf σ (strRow l) = (v, σ') ∧ l.length ≤ 1 := by
        rcases l with _ | ⟨x, _ | ⟨y, l⟩⟩
        · exact ⟨Option.some.inj h, by simp⟩
        · exact ⟨Option.some.inj h, by simp⟩
        · cases h
      obtain ⟨g, b, o, u', hg, rfl, hcell, hu, hlt⟩ := box_ok hS hb hf
      obtain ⟨hl, hd⟩ := keysIn_ok okey hS hk hu
      obtain ⟨hgive, hent⟩ := gives (n := 3) (by omega) hg hlt hcell hd
      have cS := AnyZ.collect_in (ρ := Tryz.sortedS_ren) { Tryz.sortedS with } Fence.wide 5 trivial trivial rfl (by omega) g #[.pointer (some ⟨b, o, none⟩)] trivial hent _ _ (by unfold maxLen; omega) (by omega) w hgive
      refine (callsIn_wide.1 cS).mono ?_
      rintro e w' ⟨v', ss, rfl, hp, hrow, hnil, hbel⟩
      have hss : ss = l := by
        rcases l with _ | ⟨x, _ | ⟨y, l⟩⟩
        · exact hp.eq_nil
        · exact List.perm_singleton.1 hp
        · exact absurd hone.2 (by simp)
      subst hss
      rw [strRow_enc] at hrow
      have h1 := hone.1
      have e1 : v = (madeOf σ (strRow ss)).1 := by rw [h1]
      have e2 : σ' = (madeOf σ (strRow ss)).2 := by rw [h1]
      rw [e1, e2]
      refine made_row hS hB hbel hrow (fun e => hnil.2 ?_) (fun ρ' => strRow_flat _ ρ') ?_
      · have h1 := congrArg List.length e
        simp only [strRow, List.length_map, List.length_nil] at h1
        exact List.eq_nil_of_length_eq_zero h1
      · simp [isSmall, strRow, hl]
theorem noGo : (Tryz.prog.funcs.toList.all fun fn => !(fn.body.isSome && fn.name == "runtime.NumGoroutine")) = true := by kernel_rfl
theorem prims (B : Nat) : PrimsOK Tryz.prog B X where
  mixed := Tryz.keysA.mixed
  named := fun f fn hf hb => by
    have h := List.all_eq_true.1 noGo fn (Array.mem_toList_iff.2 (Array.mem_of_getElem? hf))
    rw [hb] at h
    simpa using h
  ext := fun f args v h ρ w args' hv => by
    simp only [X, XExt] at h
    split at h
    · rename_i hf
      have hf' := Nat.eq_of_beq_eq_true hf
      split at h
      · rename_i s c
        split at h
        · rename_i hc
          cases h
          obtain ⟨s', l1, e1, hs1, hv1⟩ := hv.inv_cons
          obtain ⟨c', l2, rfl, hc1, hv2⟩ := hv1.inv_cons
          obtain rfl := hv2.inv_nil
          have es := hs1.inv_string; subst es
          have ec := hc1.inv_int; subst ec
          obtain rfl : args' = #[.string s, .int .u8 (Int.ofNat c)] := by cases args'; simp at e1; simp [e1]
          subst hf'
          refine ⟨_, ?_, .int _ _⟩
          rw [run_callFunc_extern Tryz.func226 (by kernel_rfl) (by kernel_rfl) (by kernel_rfl) (e := Extern.BytealgCount.count) (by kernel_rfl), run_count s (Nat.le_of_ble_eq_true hc)]
          rfl
        · cases h
      · cases h
    · split at h
      · rename_i hf
        have hf' := Nat.eq_of_beq_eq_true hf
        split at h
        · rename_i s c
          split at h
          · rename_i hc
            cases h
            obtain ⟨s', l1, e1, hs1, hv1⟩ := hv.inv_cons
            obtain ⟨c', l2, rfl, hc1, hv2⟩ := hv1.inv_cons
            obtain rfl := hv2.inv_nil
            have es := hs1.inv_string; subst es
            have ec := hc1.inv_int; subst ec
            obtain rfl : args' = #[.string s, .int .u8 (Int.ofNat c)] := by cases args'; simp at e1; simp [e1]
            subst hf'
            refine ⟨_, ?_, .int _ _⟩
            rw [run_callFunc_extern Tryz.func258 (by kernel_rfl) (by kernel_rfl) (by kernel_rfl) (e := Extern.BytealgIndexByte.indexByte) (by kernel_rfl), run_index s (Nat.le_of_ble_eq_true hc)]
            rfl
          · cases h
        · cases h
      · cases h
  find := fun f args σ v σ' h ρ w args' hS hB hv => by
    simp only [X, XFind] at h
    split at h
    · rename_i hf
      have hf' := Nat.eq_of_beq_eq_true hf
      subst hf'
      split at h
      · simp only [Option.some.injEq] at h
        exact ⟨enters_of Tryz.func88 (by kernel_rfl) rfl _ _, find_sortedS h hS hB hv⟩
      · cases h
    · split at h
      · rename_i hf
        have hf' := Nat.eq_of_beq_eq_true hf
        subst hf'
        split at h
        · simp only [Option.some.injEq] at h
          exact ⟨enters_of Tryz.func150 (by kernel_rfl) rfl _ _, find_sortedI h hS hB hv⟩
        · cases h
      · split at h
        · rename_i hf
          have hf' := Nat.eq_of_beq_eq_true hf
          subst hf'
          split at h
          · simp only [Option.some.injEq] at h
            exact ⟨enters_of Tryz.func137 (by kernel_rfl) rfl _ _, find_collect h hS hB hv⟩
          · cases h
        · split at h
          · rename_i hf
            have hf' := Nat.eq_of_beq_eq_true hf
            subst hf'
            exact ⟨enters_of Tryz.func170 (by kernel_rfl) rfl _ _, insert_ok Tryz.ins h hS hB hv⟩
          · split at h
            · rename_i hf
              have hf' := Nat.eq_of_beq_eq_true hf
              subst hf'
              split at h
              · simp only [Option.some.injEq] at h
                exact ⟨enters_of Tryz.func106 (by kernel_rfl) rfl _ _, copyCheck_ok h hS hv⟩
              · cases h
            · split at h
              · rename_i hf
                have hf' := Nat.eq_of_beq_eq_true hf
                subst hf'
                split at h
                · simp only [Option.some.injEq] at h
                  exact ⟨enters_of Tryz.func57 (by kernel_rfl) rfl _ _, builderStr_ok h hS hv⟩
                · cases h
              · cases h
  run := fun call hC args σ r h ρ w args' hS hB hv => ⟨enters_of Tryz.func55 (by kernel_rfl) rfl _ _, run_ok B call hC args σ r h ρ w args' hS hB hv⟩
end Go.AM

