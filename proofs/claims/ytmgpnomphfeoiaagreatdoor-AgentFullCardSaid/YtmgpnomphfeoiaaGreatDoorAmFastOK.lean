import Derived.Test.YtmgpnomphfeoiaaGreatDoorAmFast
import Derived.Test.YtmgpnomphfeoiaaGreatDoorAmTr
set_option linter.all false
namespace Go.AM
noncomputable section
/-- From some number on. -/
def Evn (p : Nat → Prop) : Prop := ∃ m, ∀ n, m ≤ n → p n
theorem Evn.of {p : Nat → Prop} (h : ∀ n, p n) : Evn p := ⟨0, fun n _ => h n⟩
theorem Evn.mono {p q : Nat → Prop} (h : Evn p) (f : ∀ n, p n → q n) : Evn q := let ⟨m, hm⟩ := h; ⟨m, fun n hn => f n (hm n hn)⟩
theorem Evn.and {p q : Nat → Prop} (h : Evn p) (g : Evn q) : Evn fun n => p n ∧ q n := by
  obtain ⟨m, hm⟩ := h
  obtain ⟨m', hm'⟩ := g
  exact ⟨max m m', fun n hn => ⟨hm n (by omega), hm' n (by omega)⟩⟩
theorem Evn.succ {p : Nat → Prop} (h : Evn fun n => p (n + 1)) : Evn p := by
  obtain ⟨m, hm⟩ := h
  refine ⟨m + 1, fun n hn => ?_⟩
  obtain ⟨k, rfl⟩ : ∃ k, n = k + 1 := ⟨n - 1, by omega⟩
  exact hm k (by omega)
/-! ### operands -/
theorem evals_le {ev ev' : Ev} (h : ∀ x v, ev x = some v → ev' x = some v) : ∀ {l : List Operand} {vs : List Value}, evals ev l = some vs → evals ev' l = some vs
  | [], vs, e => e
  | x :: xs, vs, e => by
    simp only [evals] at e ⊢
    cases hx : ev x with
    | none => rw [hx] at e; cases e
    | some v =>
      rw [hx] at e; rw [h x v hx]
      simp only at e ⊢
      cases hxs : evals ev xs with
      | none => rw [hxs] at e; cases e
      | some us => rw [hxs] at e; rw [evals_le h hxs]; exact e
theorem evalParts_le {ev ev' : Ev} (h : ∀ x v, ev x = some v → ev' x = some v) : ∀ {l : List (Nat × Operand)} {vs : List (Nat × Value)}, evalParts ev l = some vs → evalParts ev' l = some vs
  | [], vs, e => e
  | (i, x) :: xs, vs, e => by
    simp only [evalParts] at e ⊢
    cases hx : ev x with
    | none => rw [hx] at e; cases e
    | some v =>
      rw [hx] at e; rw [h x v hx]
      simp only at e ⊢
      cases hxs : evalParts ev xs with
      | none => rw [hxs] at e; cases e
      | some us => rw [hxs] at e; rw [evalParts_le h hxs]; exact e
theorem evalOpt_le {ev ev' : Ev} (h : ∀ x v, ev x = some v → ev' x = some v) {o : Option Operand} {v : Option Value} (e : evalOpt ev o = some v) : evalOpt ev' o = some v := by
  cases o with
  | none => exact e
  | some x =>
    simp only [evalOpt] at e ⊢
    cases hx : ev x with
    | none => rw [hx] at e; cases e
    | some u => rw [hx] at e; rw [h x u hx]; exact e
/-- What it comes to. -/
def DOp.outAt (σ : St) : DOp → Option Out
  | .now v => some (.val v)
  | .val x => vOut x
  | .rd f => vOut (f σ)
  | .upd f => uOut (f σ)
  | .wri f => wOut (f σ)
  | .new x => match x with | some (mk, b) => some (.new mk b) | none => none
  | .call f args => some (.enter f args)
  | .enter g args => enterV g args
  | .out f => f σ
  | .panic v => match v with | .iface t y => some (.panic (.iface t y)) | _ => none
  | .bad => none
theorem d1_out {x : Option Value} {f : Value → DOp} {σ : St} {out : Out} (h : (d1 x f).outAt σ = some out) : ∃ v, x = some v ∧ (f v).outAt σ = some out := by
  cases x with
  | none => cases h
  | some v => exact ⟨v, rfl, h⟩
theorem dl_out {x : Option (List Value)} {f : List Value → DOp} {σ : St} {out : Out} (h : (dl x f).outAt σ = some out) : ∃ v, x = some v ∧ (f v).outAt σ = some out := by
  cases x with
  | none => cases h
  | some v => exact ⟨v, rfl, h⟩
theorem outN_out {o : Option Out} {σ : St} {out : Out} (h : (DOp.new (outN o)).outAt σ = some out) : o = some out := by
  simp only [DOp.outAt, outN] at h
  split at h
  · rename_i e
    split at e
    · cases e; exact h
    · cases e
  · cases h
theorem resolve_out {P : Program} {ev ev' : Ev} (hev : ∀ x v, ev x = some v → ev' x = some v) (hfn : ∀ f, ev' (.func f) = some (.func (.func f) #[] #[])) {o : Oper} {σ : St} {out : Out} (h : (resolve P ev o.op).outAt σ = some out) : opV P ev' σ o = some out := by
  obtain ⟨dst, op, type, pos, after, guard⟩ := o
  simp only at h
  unfold opV
  simp only
  cases op <;> simp only [resolve] at h ⊢ <;> first
    | (cases h; done)
    | (obtain ⟨p, hp, h⟩ := d1_out h; rw [hev _ _ hp]; exact h)
    | (obtain ⟨p, hp, h⟩ := d1_out h; obtain ⟨q, hq, h⟩ := d1_out h; rw [hev _ _ hp, hev _ _ hq]; exact h)
    | (obtain ⟨p, hp, h⟩ := d1_out h; obtain ⟨q, hq, h⟩ := d1_out h; obtain ⟨z, hz, h⟩ := d1_out h; rw [hev _ _ hp, hev _ _ hq, hev _ _ hz]; exact h)
    | (obtain ⟨p, hp, h⟩ := d1_out h; obtain ⟨q, hq, h⟩ := d1_out h; rw [hev _ _ hp, hev _ _ hq]; exact outN_out h)
    | skip
  case alloc t =>
    simp only [DOp.outAt, allocN] at h
    simp only [allocV]
    cases hz : zeroOf P t with
    | none => rw [hz] at h; cases h
    | some z => rw [hz] at h; exact h
  case box t x =>
    obtain ⟨p, hp, h⟩ := d1_out h
    simp only [boxV]; rw [hev _ _ hp]; exact h
  case build t ps =>
    cases hps : evalParts ev ps.toList with
    | none => rw [hps] at h; cases h
    | some vs => rw [hps] at h; rw [evalParts_le hev hps]; exact h
  case buildSlice t len ps =>
    cases hps : evalParts ev ps.toList with
    | none => rw [hps] at h; cases h
    | some vs => rw [hps] at h; rw [evalParts_le hev hps]; exact outN_out h
  case makeFunc fn first captured =>
    cases fn <;> try (simp only at h; cases h; done)
    obtain ⟨p, hp, h⟩ := dl_out h
    obtain ⟨q, hq, h⟩ := dl_out h
    rw [evals_le hev hp, evals_le hev hq]; exact h
  case makeMap t r =>
    cases r with
    | none => exact h
    | some r => cases h
  case slice t x lo hi mx =>
    obtain ⟨p, hp, h⟩ := d1_out h
    rw [hev _ _ hp]
    simp only [ev1]
    cases hl : evalOpt ev lo with
    | none => rw [hl] at h; cases h
    | some l => cases hh : evalOpt ev hi with
      | none => rw [hl, hh] at h; cases h
      | some hv => cases hm : evalOpt ev mx with
        | none => rw [hl, hh, hm] at h; cases h
        | some m => rw [hl, hh, hm] at h; rw [evalOpt_le hev hl, evalOpt_le hev hh, evalOpt_le hev hm]; exact h
  case panic x =>
    obtain ⟨p, hp, h⟩ := d1_out h
    rw [hev _ _ hp]
    cases p <;> first
      | exact h
      | (cases h; done)
  case call c =>
    obtain ⟨callee, args, argTypes⟩ := c
    cases callee with
    | invoke r m => cases h
    | value f =>
      simp only at h ⊢
      obtain ⟨vs, hvs, h⟩ := dl_out h
      rw [evals_le hev hvs]
      cases f with
      | func f =>
        rw [hfn]
        simp only [DOp.outAt] at h
        simp only [ev1, enterV, List.nil_append, List.append_nil, h]
      | tmp t => obtain ⟨p, hp, h⟩ := d1_out h; rw [hev _ _ hp]; exact h
      | const t => obtain ⟨p, hp, h⟩ := d1_out h; rw [hev _ _ hp]; exact h
      | global t => obtain ⟨p, hp, h⟩ := d1_out h; rw [hev _ _ hp]; exact h
    | builtin b =>
      simp only at h ⊢
      obtain ⟨vs, hvs, h⟩ := dl_out h
      rw [evals_le hev hvs]
      simp only
      cases b <;> first
        | (cases h; done)
        | exact h
        | skip
      case len =>
        simp only [builtinV] at h ⊢
        cases ha : argTypes.toList with
        | nil => rw [ha] at h; cases h
        | cons t ts =>
          cases vs with
          | nil => rw [ha] at h; cases h
          | cons x xs => rw [ha] at h; exact h
      case cap =>
        simp only [builtinV] at h ⊢
        cases ha : argTypes.toList with
        | nil => rw [ha] at h; cases h
        | cons t ts =>
          cases vs with
          | nil => rw [ha] at h; cases h
          | cons x xs =>
            rw [ha] at h
            simp only [DOp.outAt, capV] at h
            cases x <;> first
              | (cases h; done)
              | skip
            simp only at h ⊢
            cases hu : P.underlying t with
            | none => rw [hu] at h; cases h
            | some u =>
              rw [hu] at h
              cases u <;> first
                | (cases h; done)
                | skip
              simp only [Bool.cond_eq_ite] at h ⊢
              split at h
              · rename_i hj; rw [if_pos hj]; exact h
              · cases h
end
end Go.AM
