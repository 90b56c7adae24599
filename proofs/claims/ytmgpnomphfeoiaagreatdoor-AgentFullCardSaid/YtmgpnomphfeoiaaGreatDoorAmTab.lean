import Derived.Test.YtmgpnomphfeoiaaGreatDoorAmFastDen
set_option linter.all false
namespace Go.AM
/-- A table's tree holds the program's functions: at its place m the one of the number off + step * m. -/
def TabAt (P : Program) (X : Prims) (off step : Nat) (t : Tr (List Value → Cmd)) : Prop := ∀ m F, t.get m = some F → ∃ fn n, P.funcs[off + step * m]? = some fn ∧ F = denF P X n fn
def TabV (P : Program) (X : Prims) (off : Nat) (v : Option (List Value → Cmd)) : Prop := ∀ F, v = some F → ∃ fn n, P.funcs[off]? = some fn ∧ F = denF P X n fn
theorem TabV.none {P : Program} {X : Prims} {off : Nat} : TabV P X off none := fun _ h => by cases h
theorem TabV.some {P : Program} {X : Prims} {off : Nat} {F : List Value → Cmd} {fn : Func} {n : Nat} (h : P.funcs[off]? = some fn) (hF : F = denF P X n fn) : TabV P X off (some F) := fun G e => by cases e; exact ⟨fn, n, h, hF⟩
theorem TabAt.leaf {P : Program} {X : Prims} {off step : Nat} : TabAt P X off step .leaf := fun m F h => by simp [Tr.get_leaf] at h
theorem TabAt.node {P : Program} {X : Prims} {off step a b s : Nat} {l r : Tr (List Value → Cmd)} {v : Option (List Value → Cmd)} (hl : TabAt P X a s l) (hv : TabV P X off v) (hr : TabAt P X b s r)
    (ha : a = off + step) (hb : b = off + 2 * step) (hs : s = 2 * step) : TabAt P X off step (.node l v r) := fun m F h => by
  subst ha; subst hb; subst hs
  rw [Tr.get_node] at h
  split at h
  · rename_i h0
    subst h0
    exact hv F h
  · split at h
    · obtain ⟨fn, n, h1, h2⟩ := hl _ F h
      refine ⟨fn, n, ?_, h2⟩
      rw [← h1]
      congr 1
      have : m = 2 * (m / 2) + 1 := by omega
      generalize m / 2 = k at *
      subst this
      rw [Nat.mul_add, Nat.mul_comm 2 step, Nat.mul_assoc]
      omega
    · obtain ⟨fn, n, h1, h2⟩ := hr _ F h
      refine ⟨fn, n, ?_, h2⟩
      rw [← h1]
      congr 1
      have : m = 2 * (m / 2 - 1) + 2 := by omega
      generalize m / 2 - 1 = k at *
      subst this
      rw [Nat.mul_add, Nat.mul_comm 2 step, Nat.mul_assoc]
      omega
theorem TabAt.ok {P : Program} {X : Prims} {t : Tr (List Value → Cmd)} (h : TabAt P X 0 1 t) : TabOK P X t := fun f F hF => by
  have := h f F hF
  rwa [Nat.zero_add, Nat.one_mul] at this
end Go.AM
