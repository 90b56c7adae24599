import Derived.Test.YtlhdghpdifmccaaGreatDoorAmTab
import Derived.Test.YtlhdghpdifmccaaGreatDoorTieE
import Derived.Test.YtlhdghpdifmccaaGreatDoorPrimsT
import Derived.Test.YtlhdghpdifmccaaGreatDoorRunE0
import Derived.Test.YtlhdghpdifmccaaGreatDoorRunE1
import Derived.Test.YtlhdghpdifmccaaGreatDoorRunE2
import Derived.Test.YtlhdghpdifmccaaGreatDoorRunE3
import Derived.Below
set_option linter.all false
namespace Go.AM
open Go.Proofs Go.RowKit
theorem okB_some {r : Option CRes} (h : okB r = true) : ∃ σ, r = some (.ret (.bool true) σ) := by
  unfold okB at h
  split at h
  · exact ⟨_, rfl⟩
  · cases h
theorem empty_sim (B : Nat) (w : World) : Sim B (fun _ => none) σ0 w where
  live := fun i blk h => by simp [σ0, St.get, Tr.get_leaf] at h
  dom := fun i p h => by cases h
  own := fun i blk p _ h => by cases h
  free := fun i blk p _ h => by cases h
  apart := fun i j bi bj p q _ _ h => by cases h
  below := fun i j bi bj h => by simp [σ0, St.get, Tr.get_leaf] at h
  chain := fun j bj k h => by simp [σ0, St.get, Tr.get_leaf] at h
/-- What the machine comes to from nothing, the call comes to in every world, and nothing that lay there turns. -/
theorem closed {f : FuncId} {args : List Value} (h : okB (fast X ftab 100000 f args σ0) = true) {args' : Array Value} (hv : VRs (fun _ => none) args args'.toList) (W : World) :
    Calls Tryz.prog f args' W fun e W' => e = .returned (.bool true) ∧ Below W.heap.size W W' := by
  obtain ⟨σ, hr⟩ := okB_some h
  obtain ⟨m, hm⟩ := fast_sim tab_ok 100000 _ _ _ _ hr
  refine (call_sound (prims W.heap.size) (hm m (Nat.le_refl _)) (empty_sim W.heap.size W) (Nat.le_refl _) hv).mono fun e W' hp => ?_
  cases e with
  | returned v =>
    obtain ⟨ρ', h1, h2, h3⟩ := hp
    have e1 := h1.inv_bool; subst e1
    exact ⟨rfl, h3.os, h3.tape, h3.output, h3.size, fun b hb => h3.keep b hb fun i blk p hi => by simp [σ0, St.get, Tr.get_leaf] at hi⟩
  | panicked c => exact hp.elim
  | outgrown => exact hp.elim
theorem good_all : ∀ n, n < 64 → ∀ r, r < 4 → good n r = true := by
  intro n hn r hr
  have key : (good n 0 && good n 1 && good n 2 && good n 3) = true := by
    have : n ∈ List.range 64 := List.mem_range.2 hn
    match n, hn with
    | 0, _ => exact good0
    | 1, _ => exact good1
    | 2, _ => exact good2
    | 3, _ => exact good3
    | 4, _ => exact good4
    | 5, _ => exact good5
    | 6, _ => exact good6
    | 7, _ => exact good7
    | 8, _ => exact good8
    | 9, _ => exact good9
    | 10, _ => exact good10
    | 11, _ => exact good11
    | 12, _ => exact good12
    | 13, _ => exact good13
    | 14, _ => exact good14
    | 15, _ => exact good15
    | 16, _ => exact good16
    | 17, _ => exact good17
    | 18, _ => exact good18
    | 19, _ => exact good19
    | 20, _ => exact good20
    | 21, _ => exact good21
    | 22, _ => exact good22
    | 23, _ => exact good23
    | 24, _ => exact good24
    | 25, _ => exact good25
    | 26, _ => exact good26
    | 27, _ => exact good27
    | 28, _ => exact good28
    | 29, _ => exact good29
    | 30, _ => exact good30
    | 31, _ => exact good31
    | 32, _ => exact good32
    | 33, _ => exact good33
    | 34, _ => exact good34
    | 35, _ => exact good35
    | 36, _ => exact good36
    | 37, _ => exact good37
    | 38, _ => exact good38
    | 39, _ => exact good39
    | 40, _ => exact good40
    | 41, _ => exact good41
    | 42, _ => exact good42
    | 43, _ => exact good43
    | 44, _ => exact good44
    | 45, _ => exact good45
    | 46, _ => exact good46
    | 47, _ => exact good47
    | 48, _ => exact good48
    | 49, _ => exact good49
    | 50, _ => exact good50
    | 51, _ => exact good51
    | 52, _ => exact good52
    | 53, _ => exact good53
    | 54, _ => exact good54
    | 55, _ => exact good55
    | 56, _ => exact good56
    | 57, _ => exact good57
    | 58, _ => exact good58
    | 59, _ => exact good59
    | 60, _ => exact good60
    | 61, _ => exact good61
    | 62, _ => exact good62
    | 63, _ => exact good63
    | n + 64, h => exact absurd h (by omega)
  simp only [Bool.and_eq_true] at key
  obtain ⟨⟨⟨k0, k1⟩, k2⟩, k3⟩ := key
  match r, hr with
  | 0, _ => exact k0
  | 1, _ => exact k1
  | 2, _ => exact k2
  | 3, _ => exact k3
  | r + 4, h => exact absurd h (by omega)
theorem lk_mem (l : Nat) (h : l < 256) : VR (fun _ => none) (lk (l % 64)) (.int .u8 (Int.ofNat l)) := by
  refine .any ?_
  have : l = l % 64 ∨ l = l % 64 + 64 ∨ l = l % 64 + 128 ∨ l = l % 64 + 192 := by omega
  simp only [List.map_cons, List.map_nil, List.mem_cons, List.not_mem_nil, or_false, Value.int.injEq, true_and]
  rcases this with h | h | h | h
  · exact .inl (by rw [← h])
  · exact .inr (.inl (by rw [← h]))
  · exact .inr (.inr (.inl (by rw [← h])))
  · exact .inr (.inr (.inr (by rw [← h])))
theorem at_mem (a : Nat) (h : a < 256) : VR (fun _ => none) (at4 (a % 4)) (.int .u8 (Int.ofNat a)) := by
  refine .any ?_
  rw [List.map_map]
  exact List.mem_map.2 ⟨a / 4, List.mem_range.2 (by omega), by simp only [Function.comp]; congr 2; omega⟩
/-- **THE LAW, FOR EVERY TWO BYTES, IN EVERY WORLD.** -/
theorem eager (l a : Nat) (hl : l < 256) (ha : a < 256) (W : World) : Calls Tryz.prog 4 #[.int .u8 (Int.ofNat l), .int .u8 (Int.ofNat a)] W fun e W' => e = .returned (.bool true) ∧ Below W.heap.size W W' :=
  closed (good_all (l % 64) (by omega) (a % 4) (by omega)) (VRs.cons (lk_mem l hl) (VRs.cons (at_mem a ha) (VRs.nil _))) W
end Go.AM
