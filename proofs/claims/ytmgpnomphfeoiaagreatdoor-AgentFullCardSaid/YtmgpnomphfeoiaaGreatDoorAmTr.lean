import Derived.Test.YtmgpnomphfeoiaaGreatDoorAmDef
set_option linter.all false
namespace Go.AM
namespace Tr
variable {α : Type}
theorem get_leaf (n : Nat) : (leaf : Tr α).get n = none := rfl
theorem get_node (l r : Tr α) (v : Option α) (n : Nat) : (node l v r).get n = if n = 0 then v else if n % 2 = 1 then l.get (n / 2) else r.get (n / 2 - 1) := by
  cases n with
  | zero => rfl
  | succ k =>
    rw [if_neg (Nat.succ_ne_zero k)]
    show (Nat.rec (motive := fun _ => Option α) (l.get (k / 2)) (fun _ _ => r.get (k / 2)) (k % 2) : Option α) = _
    rcases Nat.mod_two_eq_zero_or_one k with h | h
    · rw [h, if_pos (by omega), show (k + 1) / 2 = k / 2 by omega]; rfl
    · rw [h, if_neg (by omega), show (k + 1) / 2 - 1 = k / 2 by omega]; rfl
theorem get_node' (l r : Tr α) (v : Option α) (k : Nat) : (node l v r).get (k + 1) = if k % 2 = 0 then l.get (k / 2) else r.get (k / 2) := by
  rw [get_node, if_neg (Nat.succ_ne_zero k)]
  by_cases h : k % 2 = 0
  · rw [if_pos h, if_pos (by omega), show (k + 1) / 2 = k / 2 by omega]
  · rw [if_neg h, if_neg (by omega), show (k + 1) / 2 - 1 = k / 2 by omega]
theorem get_node0 (l r : Tr α) (v : Option α) : (node l v r).get 0 = v := rfl
theorem putL_zero (x : Option α) (f : Nat) : putL x (f + 1) 0 = .node .leaf x .leaf := rfl
theorem putL_succ (x : Option α) (f k : Nat) : putL x (f + 1) (k + 1) = if k % 2 = 0 then .node (putL x f (k / 2)) none .leaf else .node .leaf none (putL x f (k / 2)) := by
  show (Nat.rec (motive := fun _ => Tr α) (.node (putL x f (k / 2)) none .leaf) (fun _ _ => .node .leaf none (putL x f (k / 2))) (k % 2) : Tr α) = _
  rcases Nat.mod_two_eq_zero_or_one k with h | h
  · rw [h, if_pos rfl]; rfl
  · rw [h, if_neg (by omega)]; rfl
theorem putL_get (x : Option α) : ∀ (f n : Nat), n < f → ∀ m, (putL x f n).get m = if m = n then x else none
  | 0, _, h, _ => absurd h (Nat.not_lt_zero _)
  | f + 1, 0, _, m => by
    rw [putL_zero]
    cases m with
    | zero => rfl
    | succ m => rw [get_node', if_neg (Nat.succ_ne_zero m)]; split <;> rfl
  | f + 1, k + 1, h, m => by
    have ih := putL_get x f (k / 2) (by omega)
    rw [putL_succ]
    cases m with
    | zero => split <;> rw [get_node0, if_neg (by omega)]
    | succ m =>
      by_cases hk : k % 2 = 0
      · rw [if_pos hk, get_node']
        by_cases hm : m % 2 = 0
        · rw [if_pos hm, ih]
          by_cases e : m = k
          · subst e; simp
          · rw [if_neg (by omega), if_neg (by omega)]
        · rw [if_neg hm, if_neg (by omega)]; rfl
      · rw [if_neg hk, get_node']
        by_cases hm : m % 2 = 0
        · rw [if_pos hm, if_neg (by omega)]; rfl
        · rw [if_neg hm, ih]
          by_cases e : m = k
          · subst e; simp
          · rw [if_neg (by omega), if_neg (by omega)]
theorem putF_leaf (n : Nat) (x : Option α) : (leaf : Tr α).putF n x = putL x (n + 1) n := rfl
theorem putF_zero (l r : Tr α) (v x : Option α) : (node l v r).putF 0 x = .node l x r := rfl
theorem putF_succ (l r : Tr α) (v x : Option α) (k : Nat) : (node l v r).putF (k + 1) x = if k % 2 = 0 then .node (l.putF (k / 2) x) v r else .node l v (r.putF (k / 2) x) := by
  show (Nat.rec (motive := fun _ => Tr α) (.node (l.putF (k / 2) x) v r) (fun _ _ => .node l v (r.putF (k / 2) x)) (k % 2) : Tr α) = _
  rcases Nat.mod_two_eq_zero_or_one k with h | h
  · rw [h, if_pos rfl]; rfl
  · rw [h, if_neg (by omega)]; rfl
theorem get_put (t : Tr α) (n : Nat) (x : Option α) (m : Nat) : (t.put n x).get m = if m = n then x else t.get m := by
  show (t.putF n x).get m = _
  induction t generalizing n m with
  | leaf => rw [putF_leaf, putL_get x (n + 1) n (Nat.lt_succ_self n)]; rfl
  | node l v r ihl ihr =>
    cases n with
    | zero =>
      rw [putF_zero]
      cases m with
      | zero => rfl
      | succ m => rw [get_node', get_node', if_neg (Nat.succ_ne_zero m)]
    | succ k =>
      rw [putF_succ]
      cases m with
      | zero => split <;> rw [get_node0, get_node0, if_neg (by omega)]
      | succ m =>
        by_cases hk : k % 2 = 0
        · rw [if_pos hk, get_node', get_node']
          by_cases hm : m % 2 = 0
          · rw [if_pos hm, if_pos hm, ihl]
            by_cases e : m = k
            · subst e; simp
            · rw [if_neg (by omega), if_neg (by omega)]
          · rw [if_neg hm, if_neg hm, if_neg (by omega)]
        · rw [if_neg hk, get_node', get_node']
          by_cases hm : m % 2 = 0
          · rw [if_pos hm, if_pos hm, if_neg (by omega)]
          · rw [if_neg hm, if_neg hm, ihr]
            by_cases e : m = k
            · subst e; simp
            · rw [if_neg (by omega), if_neg (by omega)]
theorem get_put_self (t : Tr α) (n : Nat) (x : Option α) : (t.put n x).get n = x := by rw [get_put, if_pos rfl]
theorem get_put_ne (t : Tr α) {n m : Nat} (x : Option α) (h : m ≠ n) : (t.put n x).get m = t.get m := by rw [get_put, if_neg h]
theorem get_ofListF : ∀ (l : List α) (n : Nat) (t : Tr α) (m : Nat), (ofListF l n t).get m = if n ≤ m ∧ m < n + l.length then l[m - n]? else t.get m
  | [], n, t, m => by simp [ofListF]; omega
  | x :: xs, n, t, m => by
    rw [ofListF, get_ofListF xs (n + 1), get_put]
    by_cases hm : m = n
    · subst hm; rw [if_neg (by omega), if_pos rfl, if_pos ⟨Nat.le_refl _, by simp⟩]; simp
    · by_cases h : n ≤ m ∧ m < n + (x :: xs).length
      · rw [if_pos (by simp at h ⊢; omega), if_pos h]
        obtain ⟨k, rfl⟩ : ∃ k, m = n + 1 + k := ⟨m - n - 1, by omega⟩
        rw [show n + 1 + k - (n + 1) = k by omega, show n + 1 + k - n = k + 1 by omega]; simp
      · rw [if_neg (by simp at h ⊢; omega), if_neg hm, if_neg h]
end Tr
theorem dropAll_get : ∀ (l : List Nat) (h : Tr Blk) (m : Nat), (dropAll h l).get m = if m ∈ l then none else h.get m
  | [], h, m => by simp [dropAll]
  | i :: is, h, m => by
    rw [dropAll, dropAll_get is, Tr.get_put]
    by_cases a : m ∈ is <;> by_cases b : m = i <;> simp [a, b]
end Go.AM
