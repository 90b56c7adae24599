import Derived.Test.YtmgpnomphfeoiaaGreatDoorAmVal
import GoSem.Dispatch
set_option linter.all false
namespace Go.AM
section
variable {P : Program} {ρ : Ren}
theorem VR.inv_int {k : IntKind} {n : Int} {v : Value} (h : VR ρ (.int k n) v) : v = .int k n := by cases h; rfl
theorem VR.inv_bool {b : Bool} {v : Value} (h : VR ρ (.bool b) v) : v = .bool b := by cases h; rfl
theorem VR.inv_string {b : ByteArray} {v : Value} (h : VR ρ (.string b) v) : v = .string b := by cases h; rfl
theorem VR.inv_ptr {a : Addr} {v : Value} (h : VR ρ (.pointer (some a)) v) : ∃ p, ρ a.block = some p ∧ a.spot = none ∧ v = .pointer (some ⟨p.b, p.s + a.off, none⟩) := by
  cases h with | ptr h => exact ⟨_, h, rfl, rfl⟩
theorem VR.inv_map {i : Nat} {v : Value} (h : VR ρ (.map (some i)) v) : ∃ p, ρ i = some p ∧ v = .map (some p.b) := by
  cases h with | map h => exact ⟨_, h, rfl⟩
theorem VR.inv_func {f : FuncId} {a b : Array Value} {v : Value} (h : VR ρ (.func (.func f) a b) v) : ∃ a' b' : Array Value, v = .func (.func f) a' b' ∧ VRs ρ a.toList a'.toList ∧ VRs ρ b.toList b'.toList := by
  cases h with | func f ha h hb h' => exact ⟨_, _, rfl, ⟨ha, h⟩, ⟨hb, h'⟩⟩
theorem VR.inv_iface {t : TypeId} {x : Value} {v : Value} (h : VR ρ (.iface t x) v) : ∃ y, v = .iface t y ∧ VR ρ x y := by
  cases h with | iface _ h => exact ⟨_, rfl, h⟩
theorem VR.func' {f : FuncId} {a b a' b' : List Value} (h : VRs ρ a a') (h' : VRs ρ b b') : VR ρ (.func (.func f) ⟨a⟩ ⟨b⟩) (.func (.func f) ⟨a'⟩ ⟨b'⟩) := .func f h.1 h.2 h'.1 h'.2
theorem bytesEq_iff : ∀ (a b : List UInt8), bytesEq a b = (a == b)
  | [], [] => rfl
  | [], _ :: _ => rfl
  | _ :: _, [] => rfl
  | x :: a, y :: b => by
    simp only [bytesEq, Bool.cond_eq_ite, Nat.beq_eq, bytesEq_iff a b, List.cons_beq_cons]
    by_cases h : x = y
    · subst h; simp
    · have : ¬ x.toNat = y.toNat := fun e => h (UInt8.toNat_inj.1 e)
      simp [h, this]
theorem bytesLt_iff : ∀ (a b : List UInt8), bytesLt a b = Op.bytesLess a b
  | [], [] => rfl
  | [], _ :: _ => rfl
  | _ :: _, [] => rfl
  | x :: a, y :: b => by
    simp only [bytesLt, Op.bytesLess, Bool.cond_eq_ite, Nat.blt_eq, Nat.beq_eq, bytesLt_iff a b]
    by_cases h : x = y
    · subst h; simp
    · have h2 : ¬ x.toNat = y.toNat := fun e => h (UInt8.toNat_inj.1 e)
      by_cases h3 : x < y
      · have : x.toNat < y.toNat := by simpa [UInt8.lt_iff_toNat_lt] using h3
        simp [h3, this]
      · have : ¬ x.toNat < y.toNat := by simpa [UInt8.lt_iff_toNat_lt] using h3
        simp [h, h2, h3, this]
theorem run_intBin {op : BinOp} {k : IntKind} {a b : Int} {v : Value} (h : intBin op k a b = some v) (t : TypeId) (w : World) : (Go.binOp op t (.int k a) (.int k b)).run P w = .ok v w := by
  cases op <;> simp only [intBin] at h <;> (try (cases h; done))
  case quo =>
    simp only [Bool.cond_eq_ite, beq_iff_eq] at h
    split at h
    · cases h
    · rename_i hb; cases h; simp [Go.binOp, Op.intDiv, hb]
  case rem =>
    simp only [Bool.cond_eq_ite, beq_iff_eq] at h
    split at h
    · cases h
    · rename_i hb; cases h; simp [Go.binOp, Op.intDiv, hb]
  all_goals (cases h; simp [Go.binOp, Op.intArith, Op.intBits, Op.intCmp])
theorem run_shift {op : BinOp} {k : IntKind} {a b : Int} {v : Value} (h : shiftV op k a b = some v) (yk : IntKind) (w : World) : (Op.shift op k a yk b).run P w = .ok v w := by
  unfold shiftV at h
  simp only [Bool.cond_eq_ite, decide_eq_true_eq] at h
  split at h
  · cases h
  · rename_i hb
    cases op <;> simp only [reduceCtorEq] at h <;> (cases h; simp [Op.shift, hb])
theorem bytes_append (x y : ByteArray) : (⟨⟨x.data.toList ++ y.data.toList⟩⟩ : ByteArray) = x ++ y := by
  apply ByteArray.ext
  apply Array.ext'
  simp
theorem run_strBin {op : BinOp} {x y : ByteArray} {v : Value} (h : strBin op x y = some v) (w : World) : (Op.stringOp op x y).run P w = .ok v w := by
  cases op <;> simp only [strBin] at h <;> (try (cases h; done))
  case add =>
    simp only [Bool.cond_eq_ite] at h
    split at h
    · rename_i hs
      cases h
      have : x.size + y.size ≤ 1048576 := by simpa [isSmall] using hs
      have hm : ¬ ((x.size + y.size : Nat) : Int) > IntKind.i64.max := by simp [IntKind.max, IntKind.signed, IntKind.bits]; omega
      simp only [Op.stringOp, bytes_append]
      rw [if_neg hm]
      rfl
    · cases h
  all_goals (cases h; simp [Op.stringOp, bytesEq_iff, bytesLt_iff, ByteArray.toList_eq])
theorem run_eqV {t : TypeId} {x y x' y' : Value} {b : Bool} (h : eqV P t x y = some b) (hx : VR ρ x x') (hy : VR ρ y y') (w : World) : (Op.equal t x' y').run P w = .ok b w := by
  show (Op.equalIn (9999 + 1) t x' y').run P w = _
  unfold eqV at h
  split at h
  all_goals first
    | (cases h; done)
    | (rename_i hu; cases hx <;> cases hy <;> cases h <;> (rw [Op.equalIn]; simp [run_underlying hu]) <;> done)
theorem eqGuard_ok {op : BinOp} {t : TypeId} {x y : Operand} {a b : Value} (h : op = .eql ∨ op = .neq → ¬ (a = .nilIface ∧ b = .nilIface) ∧ ∀ u v, ¬ (a = .agg u ∧ b = .agg v)) (w : World) :
    (eqGuard op t x y a b).run P w = .ok () w := by
  unfold eqGuard
  by_cases ho : op = .eql ∨ op = .neq
  · obtain ⟨h1, h2⟩ := h ho
    have : (match op with | .eql | .neq => true | _ => false) = true := by rcases ho with rfl | rfl <;> rfl
    rcases ho with rfl | rfl <;> simp <;> (split <;> first | (exact absurd ⟨rfl, rfl⟩ h1) | (exact absurd ⟨rfl, rfl⟩ (h2 _ _)) | rfl)
  · cases op <;> simp at ho <;> simp
theorem guarded {op : BinOp} {t : TypeId} {x y : Operand} {a b : Value} (h : ¬ (a = .nilIface ∧ b = .nilIface) ∧ ∀ u v, ¬ (a = .agg u ∧ b = .agg v)) (w : World) :
    (do eqGuard op t x y a b; Go.binOp op t a b).run P w = (Go.binOp op t a b).run P w := by
  simp only [Sem.run_bind, eqGuard_ok (fun _ => h) w, Result.andThen_ok]
theorem intBin_VR {op : BinOp} {k : IntKind} {a b : Int} {v : Value} (h : intBin op k a b = some v) : VR ρ v v := by
  cases op <;> simp only [intBin, Bool.cond_eq_ite] at h <;> (try (cases h; done)) <;> (try (split at h)) <;> (cases h) <;> first | exact .int _ _ | exact .bool _
theorem shiftV_VR {op : BinOp} {k : IntKind} {a b : Int} {v : Value} (h : shiftV op k a b = some v) : VR ρ v v := by
  unfold shiftV at h
  simp only [Bool.cond_eq_ite] at h
  split at h
  · cases h
  · cases op <;> simp only [reduceCtorEq] at h <;> cases h <;> exact .int _ _
theorem strBin_VR {op : BinOp} {a b : ByteArray} {v : Value} (h : strBin op a b = some v) : VR ρ v v := by
  cases op <;> simp only [strBin, Bool.cond_eq_ite] at h <;> (try (cases h; done)) <;> (try (split at h)) <;> (cases h) <;> first | exact .string _ | exact .bool _
theorem run_binV0 {op : BinOp} {t : TypeId} {p q v p' q' : Value} (h : binV0 P op t p q = some v) (hp : VR ρ p p') (hq : VR ρ q q') (x y : Operand) (w : World) :
    ∃ v', (do eqGuard op t x y p' q'; Go.binOp op t p' q').run P w = .ok v' w ∧ VR ρ v v' := by
  unfold binV0 at h
  split at h
  · have e1 := hp.inv_int; have e2 := hq.inv_int; subst e1; subst e2
    rename_i k a yk b
    exact ⟨v, by rw [guarded (by simp)]; show (Op.shift .shl k a yk b).run P w = _; exact run_shift h yk w, shiftV_VR h⟩
  · have e1 := hp.inv_int; have e2 := hq.inv_int; subst e1; subst e2
    rename_i k a yk b
    exact ⟨v, by rw [guarded (by simp)]; show (Op.shift .shr k a yk b).run P w = _; exact run_shift h yk w, shiftV_VR h⟩
  · have e1 := hp.inv_int; have e2 := hq.inv_int; subst e1; subst e2
    simp only [Bool.cond_eq_ite, beq_iff_eq] at h
    split at h
    · rename_i hk; subst hk
      exact ⟨v, by rw [guarded (by simp)]; exact run_intBin h t w, intBin_VR h⟩
    · cases h
  · have e1 := hp.inv_string; have e2 := hq.inv_string; subst e1; subst e2
    rename_i a b
    refine ⟨v, ?_, strBin_VR h⟩
    rw [guarded (by simp)]
    have : Go.binOp op t (.string a) (.string b) = Op.stringOp op a b := by cases op <;> rfl
    rw [this]; exact run_strBin h w
  · cases he : eqV P t p q with
    | none => simp [he] at h
    | some b =>
      simp only [he] at h; cases h
      have hr := run_eqV he hp hq w
      have hn : ¬ (p' = .nilIface ∧ q' = .nilIface) ∧ ∀ u v, ¬ (p' = .agg u ∧ q' = .agg v) := by
        unfold eqV at he
        split at he <;> first | (cases he; done) | (cases hp <;> cases hq <;> simp)
      refine ⟨.bool b, ?_, .bool _⟩
      have : Go.binOp .eql t p' q' = (do pure (.bool (← Op.equal t p' q'))) := by
        unfold eqV at he
        split at he <;> first | (cases he; done) | (cases hp <;> cases hq <;> rfl)
      rw [guarded hn]
      simp only [Sem.run_bind, Result.andThen_ok, this, hr, Sem.run_pure]
  · cases he : eqV P t p q with
    | none => simp [he] at h
    | some b =>
      simp only [he] at h; cases h
      have hr := run_eqV he hp hq w
      have hn : ¬ (p' = .nilIface ∧ q' = .nilIface) ∧ ∀ u v, ¬ (p' = .agg u ∧ q' = .agg v) := by
        unfold eqV at he
        split at he <;> first | (cases he; done) | (cases hp <;> cases hq <;> simp)
      refine ⟨.bool (!b), ?_, .bool _⟩
      have : Go.binOp .neq t p' q' = (do pure (.bool (!(← Op.equal t p' q')))) := by
        unfold eqV at he
        split at he <;> first | (cases he; done) | (cases hp <;> cases hq <;> rfl)
      rw [guarded hn]
      simp only [Sem.run_bind, Result.andThen_ok, this, hr, Sem.run_pure]
  · cases h
theorem mapO_mem {f : Value → Option Value} : ∀ {l vs : List Value}, mapO f l = some vs → ∀ x ∈ l, ∃ v ∈ vs, f x = some v
  | [], vs, h, x, hx => by cases hx
  | y :: ys, vs, h, x, hx => by
    simp only [mapO] at h
    cases hy : f y with
    | none => rw [hy] at h; cases h
    | some v =>
      rw [hy] at h
      simp only at h
      cases hr : mapO f ys with
      | none => rw [hr] at h; cases h
      | some us =>
        rw [hr] at h; cases h
        rcases List.mem_cons.1 hx with rfl | hx
        · exact ⟨v, List.mem_cons_self .., hy⟩
        · obtain ⟨u, h1, h2⟩ := mapO_mem hr x hx
          exact ⟨u, List.mem_cons_of_mem _ h1, h2⟩
theorem eqFlat_eq {x y : Value} (h : eqFlat x y = true) : x = y := by
  unfold eqFlat at h
  split at h
  · split at h <;> first | rfl | cases h
  · simp only [Bool.and_eq_true, Nat.beq_eq, decide_eq_true_eq] at h
    obtain ⟨rfl, rfl⟩ := h; rfl
  · cases h
theorem allEq_eq {x : Value} : ∀ {l : List Value}, allEq x l = true → ∀ y ∈ l, y = x
  | [], _, y, hy => by cases hy
  | z :: zs, h, y, hy => by
    simp only [allEq] at h
    split at h
    · rename_i hz
      rcases List.mem_cons.1 hy with rfl | hy
      · exact (eqFlat_eq hz).symm
      · exact allEq_eq h y hy
    · cases h
theorem allInt_int : ∀ {l : List Value}, allInt l = true → ∀ y ∈ l, ∃ k n, y = .int k n
  | [], _, y, hy => by cases hy
  | z :: zs, h, y, hy => by
    unfold allInt at h
    split at h
    · rename_i e; cases e
    · rename_i e
      cases e
      rcases List.mem_cons.1 hy with rfl | hy
      · exact ⟨_, _, rfl⟩
      · exact allInt_int h y hy
    · cases h
theorem joinV_VR {vs : List Value} {u : Value} (h : joinV vs = some u) {v v' : Value} (hv : v ∈ vs) (hr : VR ρ v v') : VR ρ u v' := by
  cases vs with
  | nil => cases hv
  | cons x xs =>
    simp only [joinV] at h
    split at h
    · rename_i he
      cases h
      rcases List.mem_cons.1 hv with rfl | hv
      · exact hr
      · rw [← allEq_eq he v hv]; exact hr
    · split at h
      · rename_i hi
        cases h
        obtain ⟨k, n, rfl⟩ := allInt_int hi v hv
        have e := hr.inv_int; subst e
        exact .any hv
      · cases h
theorem setOp_VR {f : Value → Option Value} {l : List Value} {u : Value} (h : setOp f l = some u) {k : IntKind} {n : Int} (hm : .int k n ∈ l) : ∃ v, f (.int k n) = some v ∧ ∀ v', VR ρ v v' → VR ρ u v' := by
  unfold setOp at h
  split at h
  · cases hvs : mapO f l with
    | none => rw [hvs] at h; cases h
    | some vs =>
      rw [hvs] at h
      obtain ⟨v, h1, h2⟩ := mapO_mem hvs _ hm
      exact ⟨v, h2, fun v' hr => joinV_VR h h1 hr⟩
  · cases h
theorem rngCmp_ok {op : BinOp} {k : IntKind} {lo hi n b : Int} {r : Bool} (h : rngCmp op lo hi b = some r) (h1 : lo ≤ n) (h2 : n ≤ hi) : intBin op k n b = some (.bool r) := by
  cases op <;> simp only [rngCmp, reduceCtorEq] at h <;> simp only [intBin] <;> congr 2
  case eql =>
    have : n ≠ b := fun e => by
      by_cases c1 : b < lo
      · omega
      · by_cases c2 : hi < b
        · omega
        · simp [c1, c2] at h
    have hr : r = false := by split at h <;> cases h; rfl
    rw [hr]; simpa using this
  case neq =>
    have : n ≠ b := fun e => by
      by_cases c1 : b < lo
      · omega
      · by_cases c2 : hi < b
        · omega
        · simp [c1, c2] at h
    have hr : r = true := by split at h <;> cases h; rfl
    rw [hr]; simpa using this
  all_goals
    split at h <;> simp_all only [decide_eq_true_eq, decide_eq_false_iff_not, Option.some.injEq, reduceCtorEq] <;> (try subst h) <;> (first | (simp; omega) | (simp [Int.not_lt]; omega) | skip)
theorem binV0_int {op : BinOp} {t : TypeId} {k : IntKind} {a b : Int} (h : op ≠ .shl ∧ op ≠ .shr) : binV0 P op t (.int k a) (.int k b) = intBin op k a b := by
  cases op <;> first | (exact absurd rfl h.1) | (exact absurd rfl h.2) | simp [binV0]
theorem VR.inv_rng {m : Nat} {a b : Array Value} {v' : Value} (h : VR ρ (.func (.yield (m + 1)) a b) v') : ∃ k lo hi n, a = ⟨[.int k lo, .int k hi]⟩ ∧ v' = .int k n ∧ lo ≤ n ∧ n ≤ hi := by
  cases h with
  | rng h1 h2 => exact ⟨_, _, _, _, rfl, rfl, h1, h2⟩
theorem VR.inv_set {a b : Array Value} {v' : Value} (h : VR ρ (.func (.yield 0) a b) v') : ∃ k n, v' = .int k n ∧ .int k n ∈ a.toList := by
  cases h with
  | any h => exact ⟨_, _, rfl, h⟩
theorem run_binV {op : BinOp} {t : TypeId} {p q v p' q' : Value} (h : binV P op t p q = some v) (hp : VR ρ p p') (hq : VR ρ q q') (x y : Operand) (w : World) :
    ∃ v', (do eqGuard op t x y p' q'; Go.binOp op t p' q').run P w = .ok v' w ∧ VR ρ v v' := by
  unfold binV at h
  split at h
  · rename_i m la ca
    split at h
    · rename_i hm0
      obtain rfl : m = 0 := Nat.eq_of_beq_eq_true hm0
      obtain ⟨k, n, rfl, hm⟩ := hp.inv_set
      obtain ⟨u, h1, h2⟩ := setOp_VR (ρ := ρ) h hm
      obtain ⟨v', h3, h4⟩ := run_binV0 h1 (.int k n) hq x y w
      exact ⟨v', h3, h2 v' h4⟩
    · rename_i hm0
      obtain ⟨m', rfl⟩ : ∃ m', m = m' + 1 := by
        cases m with
        | zero => cases hm0
        | succ m => exact ⟨m, rfl⟩
      obtain ⟨k, lo, hi, n, rfl, rfl, h1, h2⟩ := hp.inv_rng
      unfold rngOp at h
      split at h
      · rename_i e
        cases e
        split at h
        · rename_i hd hr
          simp only [decide_eq_true_eq] at hd
          obtain ⟨rfl, _⟩ := hd
          cases h
          have hb := rngCmp_ok (k := k) hr h1 h2
          have hnot : op ≠ .shl ∧ op ≠ .shr := by constructor <;> rintro rfl <;> simp [rngCmp] at hr
          exact run_binV0 ((binV0_int hnot).trans hb) (.int k n) hq x y w
        · cases h
      · cases h
  · split at h
    · rename_i _ m la ca
      split at h
      · rename_i hm0
        obtain rfl : m = 0 := Nat.eq_of_beq_eq_true hm0
        obtain ⟨k, n, rfl, hm⟩ := hq.inv_set
        obtain ⟨u, h1, h2⟩ := setOp_VR (ρ := ρ) h hm
        obtain ⟨v', h3, h4⟩ := run_binV0 h1 hp (.int k n) x y w
        exact ⟨v', h3, h2 v' h4⟩
      · cases h
    · exact run_binV0 h hp hq x y w
theorem run_unV {op : UnOp} {p v p' : Value} (h : unV op p = some v) (hp : VR ρ p p') (w : World) : (Op.unary op p').run P w = .ok v w ∧ VR ρ v v := by
  unfold unV at h
  split at h
  · have e := hp.inv_int; subst e
    have := run_intBin (P := P) h 0 w
    simp only [intBin] at h; cases h
    exact ⟨by simp [Op.unary, Op.intArith], .int _ _⟩
  · have e := hp.inv_int; subst e
    simp only [intBin] at h; cases h
    exact ⟨by simp [Op.unary, Op.intBits], .int _ _⟩
  · have e := hp.inv_bool; subst e
    cases h
    exact ⟨by simp [Op.unary], .bool _⟩
  · cases h
end
end Go.AM
