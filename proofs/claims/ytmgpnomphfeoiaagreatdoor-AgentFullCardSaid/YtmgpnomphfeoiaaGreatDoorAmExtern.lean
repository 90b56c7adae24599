import Derived.Test.YtmgpnomphfeoiaaGreatDoorAmExec
import Derived.Lib.Bytealg
import Derived.Laws.Externs
set_option linter.all false
namespace Go.AM
def cntByte (c : Nat) : List UInt8 → Nat → Nat
  | [], n => n
  | b :: l, n => match Nat.beq b.toNat c with | true => cntByte c l (n + 1) | false => cntByte c l n
def idxByte (c : Nat) : List UInt8 → Nat → Int
  | [], _ => Int.negSucc 0
  | b :: l, n => match Nat.beq b.toNat c with | true => Int.ofNat n | false => idxByte c l (n + 1)
theorem byte_beq {c : Nat} (hc : c ≤ 255) (b : UInt8) : Nat.beq b.toNat c = (b == c.toUInt8) := by
  have : b = c.toUInt8 ↔ b.toNat = c := by
    rw [← UInt8.toNat_inj]
    simp [Nat.mod_eq_of_lt (show c < 256 by omega)]
  rw [Bool.eq_iff_iff, Nat.beq_eq, beq_iff_eq, this]
theorem cntByte_eq {c : Nat} (hc : c ≤ 255) : ∀ (l : List UInt8) (n : Nat), cntByte c l n = n + Go.Lib.countByte l c.toUInt8
  | [], n => by simp [cntByte, Go.Lib.countByte]
  | b :: l, n => by
    simp only [cntByte, byte_beq hc, Go.Lib.countByte, List.count_cons]
    split
    · rename_i h; rw [cntByte_eq hc l, if_pos h]; simp only [Go.Lib.countByte]; omega
    · rename_i h; rw [cntByte_eq hc l, h]; simp [Go.Lib.countByte]
theorem idxByte_eq {c : Nat} (hc : c ≤ 255) : ∀ (l : List UInt8) (n : Nat), idxByte c l n = if Go.Lib.indexByte l c.toUInt8 = -1 then -1 else (n : Int) + Go.Lib.indexByte l c.toUInt8
  | [], n => by simp [idxByte, Go.Lib.indexByte]
  | b :: l, n => by
    have hge := Go.Lib.indexByte_ge l c.toUInt8
    have e0 : Go.Lib.indexByte (b :: l) c.toUInt8 = if b == c.toUInt8 then 0 else if Go.Lib.indexByte l c.toUInt8 == -1 then -1 else Go.Lib.indexByte l c.toUInt8 + 1 := rfl
    generalize hg : Go.Lib.indexByte (b :: l) c.toUInt8 = G at e0 ⊢
    have ih := idxByte_eq hc l (n + 1)
    simp only [idxByte, byte_beq hc]
    by_cases h : b == c.toUInt8
    · rw [h] at e0 ⊢
      simp only [if_true] at e0 ⊢
      subst e0; simp
    · have h' : (b == c.toUInt8) = false := by simpa using h
      rw [h'] at e0 ⊢
      simp only [Bool.false_eq_true, if_false, beq_iff_eq] at e0 ⊢
      rw [ih]
      by_cases e : Go.Lib.indexByte l c.toUInt8 = -1
      · rw [if_pos e] at e0 ⊢; rw [e0]; simp
      · rw [if_neg e] at e0 ⊢
        rw [if_neg (by omega), e0]; push_cast; omega
theorem run_count {P : Program} (s : ByteArray) {c : Nat} (hc : c ≤ 255) (w : World) : (Extern.BytealgCount.count #[.string s, .int .u8 (Int.ofNat c)]).run P w = .ok (.int .i64 (Int.ofNat (cntByte c s.data.toList 0))) w := by
  rw [Go.Lib.run_countString, cntByte_eq hc]
  simp
theorem run_index {P : Program} (s : ByteArray) {c : Nat} (hc : c ≤ 255) (w : World) : (Extern.BytealgIndexByte.indexByte #[.string s, .int .u8 (Int.ofNat c)]).run P w = .ok (.int .i64 (idxByte c s.data.toList 0)) w := by
  rw [run_indexByte_string, Go.Lib.firstIdx_eq, idxByte_eq hc]
  simp only [Int.ofNat_eq_natCast, Int.toNat_natCast, Int.natCast_zero, Int.zero_add]
  split
  · rename_i h; rw [h]
  · rfl
end Go.AM
