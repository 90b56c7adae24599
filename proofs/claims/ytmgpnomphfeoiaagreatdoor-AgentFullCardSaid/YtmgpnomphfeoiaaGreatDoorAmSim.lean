import Derived.Test.YtmgpnomphfeoiaaGreatDoorAmTr
import Derived.Calls
import Derived.Laws.Sem
import Derived.Laws.World
import Derived.Laws.Cells
import Derived.Laws.Strings
import Derived.Laws.IdiomCopy
import Derived.MapKept
set_option linter.all false
namespace Go.AM
noncomputable section
/-! ### how abstract values stand to values -/
structure Pl where
  b : Nat
  s : Nat
  z : Nat
  m : Bool := false
abbrev Ren := Nat → Option Pl
def Ren.le (ρ ρ' : Ren) : Prop := ∀ i p, ρ i = some p → ρ' i = some p
theorem Ren.le_refl (ρ : Ren) : ρ.le ρ := fun _ _ h => h
theorem Ren.le_trans {ρ ρ' ρ'' : Ren} (h : ρ.le ρ') (h' : ρ'.le ρ'') : ρ.le ρ'' := fun i p hp => h' i p (h i p hp)
def capOk (k c : Nat) : Prop := if justOf k then c = capOf k else capOf k ≤ c
inductive VR (ρ : Ren) : Value → Value → Prop where
  | bool (b) : VR ρ (.bool b) (.bool b)
  | int (k n) : VR ρ (.int k n) (.int k n)
  | any {l : List Value} {k n} (h : .int k n ∈ l) : VR ρ (.func (.yield 0) ⟨l⟩ ⟨[]⟩) (.int k n)
  | rng {k lo hi n} (h1 : lo ≤ n) (h2 : n ≤ hi) : VR ρ (.func (.yield 1) ⟨[.int k lo, .int k hi]⟩ ⟨[]⟩) (.int k n)
  | string (s) : VR ρ (.string s) (.string s)
  | nilPtr : VR ρ (.pointer none) (.pointer none)
  | ptr {i o p} (h : ρ i = some p) : VR ρ (.pointer (some ⟨i, o, none⟩)) (.pointer (some ⟨p.b, p.s + o, none⟩))
  | nilSlice {k} (hk : capOf k = 0) (hj : justOf k = true) : VR ρ (.slice none 0 k) (.slice none 0 0)
  | slice {i o l k c p} (h : ρ i = some p) (hl : l ≤ capOf k) (hc : capOk k c) (hz : justOf k = false → p.s + o + c * eszOf k ≤ p.z ∧ c ≤ 9223372036854775807) (hm : litOf k = true → p.m = false) :
      VR ρ (.slice (some ⟨i, o, none⟩) l k) (.slice (some ⟨p.b, p.s + o, none⟩) l c)
  | noSlice {i o k a} (hk : capOf k = 0) (h : (ρ i).isSome) : VR ρ (.slice (some ⟨i, o, none⟩) 0 k) (.slice (some a) 0 0)
  | nilMap : VR ρ (.map none) (.map none)
  | map {i p} (h : ρ i = some p) : VR ρ (.map (some i)) (.map (some p.b))
  | nilChan : VR ρ (.chan none) (.chan none)
  | nilFunc : VR ρ .nilFunc .nilFunc
  | nilIface : VR ρ .nilIface .nilIface
  | iface (t) {v v'} (h : VR ρ v v') : VR ρ (.iface t v) (.iface t v')
  | func (f : FuncId) {a b a' b' : List Value} (ha : a.length = a'.length) (h : ∀ (k : Nat) (x y : Value), a[k]? = some x → a'[k]? = some y → VR ρ x y)
      (hb : b.length = b'.length) (h' : ∀ (k : Nat) (x y : Value), b[k]? = some x → b'[k]? = some y → VR ρ x y) : VR ρ (.func (.func f) ⟨a⟩ ⟨b⟩) (.func (.func f) ⟨a'⟩ ⟨b'⟩)
  | agg {a a' : List Value} (ha : a.length = a'.length) (h : ∀ (k : Nat) (x y : Value), a[k]? = some x → a'[k]? = some y → VR ρ x y) : VR ρ (.agg ⟨a⟩) (.agg ⟨a'⟩)
  | tuple {a a' : List Value} (ha : a.length = a'.length) (h : ∀ (k : Nat) (x y : Value), a[k]? = some x → a'[k]? = some y → VR ρ x y) : VR ρ (.tuple ⟨a⟩) (.tuple ⟨a'⟩)
def VRs (ρ : Ren) (a a' : List Value) : Prop := a.length = a'.length ∧ ∀ (k : Nat) (x y : Value), a[k]? = some x → a'[k]? = some y → VR ρ x y
theorem VRs.nil (ρ : Ren) : VRs ρ [] [] := ⟨rfl, fun _ _ _ h => by simp at h⟩
theorem VRs.cons {ρ : Ren} {x y : Value} {a a' : List Value} (h : VR ρ x y) (hs : VRs ρ a a') : VRs ρ (x :: a) (y :: a') := by
  refine ⟨by simp [hs.1], fun k u v hu hv => ?_⟩
  cases k with
  | zero => simp at hu hv; subst hu; subst hv; exact h
  | succ k => simp at hu hv; exact hs.2 k u v hu hv
theorem VRs.inv_cons {ρ : Ren} {x : Value} {a b : List Value} (h : VRs ρ (x :: a) b) : ∃ y a', b = y :: a' ∧ VR ρ x y ∧ VRs ρ a a' := by
  cases b with
  | nil => have := h.1; simp at this
  | cons y a' => exact ⟨y, a', rfl, h.2 0 x y rfl rfl, by have := h.1; simpa using this, fun k u v hu hv => h.2 (k + 1) u v (by simpa using hu) (by simpa using hv)⟩
theorem VRs.inv_nil {ρ : Ren} {b : List Value} (h : VRs ρ [] b) : b = [] := by have := h.1; simpa using this.symm
theorem VR.mono {ρ ρ' : Ren} (hr : ρ.le ρ') {v v' : Value} (h : VR ρ v v') : VR ρ' v v' := by
  induction h with
  | bool b => exact .bool b
  | int k n => exact .int k n
  | any h => exact .any h
  | rng h1 h2 => exact .rng h1 h2
  | string s => exact .string s
  | nilPtr => exact .nilPtr
  | ptr h => exact .ptr (hr _ _ h)
  | nilSlice hk hj => exact .nilSlice hk hj
  | slice h hl hc hz hm => exact .slice (hr _ _ h) hl hc hz hm
  | noSlice hk h => exact .noSlice hk (by obtain ⟨p, hp⟩ := Option.isSome_iff_exists.1 h; rw [hr _ _ hp]; rfl)
  | nilMap => exact .nilMap
  | map h => exact .map (hr _ _ h)
  | nilChan => exact .nilChan
  | nilFunc => exact .nilFunc
  | nilIface => exact .nilIface
  | iface t _ ih => exact .iface t ih
  | func f ha _ hb _ ih ih' => exact .func f ha ih hb ih'
  | agg ha _ ih => exact .agg ha ih
  | tuple ha _ ih => exact .tuple ha ih
theorem VRs.mono {ρ ρ' : Ren} (hr : ρ.le ρ') {a a' : List Value} (h : VRs ρ a a') : VRs ρ' a a' := ⟨h.1, fun k x y hx hy => (h.2 k x y hx hy).mono hr⟩
theorem VRs.append {ρ : Ren} {a a' b b' : List Value} (h : VRs ρ a a') (h' : VRs ρ b b') : VRs ρ (a ++ b) (a' ++ b') := by
  refine ⟨by simp [h.1, h'.1], fun k x y hx hy => ?_⟩
  by_cases hk : k < a.length
  · rw [List.getElem?_append_left hk] at hx
    rw [List.getElem?_append_left (by rw [← h.1]; exact hk)] at hy
    exact h.2 k x y hx hy
  · rw [List.getElem?_append_right (by omega)] at hx
    rw [List.getElem?_append_right (by rw [← h.1]; omega), ← h.1] at hy
    exact h'.2 _ x y hx hy
theorem VRs.drop {ρ : Ren} {a a' : List Value} (h : VRs ρ a a') (n : Nat) : VRs ρ (a.drop n) (a'.drop n) :=
  ⟨by simp [h.1], fun k x y hx hy => h.2 (n + k) x y (by simpa using hx) (by simpa using hy)⟩
theorem VRs.take {ρ : Ren} {a a' : List Value} (h : VRs ρ a a') (n : Nat) : VRs ρ (a.take n) (a'.take n) := by
  refine ⟨by simp [h.1], fun k x y hx hy => ?_⟩
  rw [List.getElem?_take] at hx hy
  by_cases hk : k < n
  · rw [if_pos hk] at hx hy; exact h.2 k x y hx hy
  · rw [if_neg hk] at hx; cases hx
theorem VRs.get {ρ : Ren} {a a' : List Value} (h : VRs ρ a a') {k : Nat} {x : Value} (hx : a[k]? = some x) : ∃ y, a'[k]? = some y ∧ VR ρ x y := by
  have hk : k < a.length := (List.getElem?_eq_some_iff.1 hx).1
  have hk' : k < a'.length := h.1 ▸ hk
  exact ⟨a'[k], List.getElem?_eq_getElem hk', h.2 k x _ hx (List.getElem?_eq_getElem hk')⟩
theorem VRs.of_append {ρ : Ren} {a b c : List Value} (h : VRs ρ (a ++ b) c) : ∃ a' b', c = a' ++ b' ∧ VRs ρ a a' ∧ VRs ρ b b' := by
  refine ⟨c.take a.length, c.drop a.length, (List.take_append_drop _ _).symm, ?_, ?_⟩
  · have := h.take a.length; simpa using this
  · have := h.drop a.length; simpa using this

/-! ### how blocks stand to blocks -/
def BR (ρ : Ren) (p : Pl) (w : World) : Body → Prop
  | .cells c => ∃ cc e fr, w.heap[p.b]? = some (.cells cc e fr) ∧ cc.size = p.z ∧ p.s + c.length ≤ p.z ∧ VRs ρ c ((cc.toList.drop p.s).take c.length)
  | .map es => p.s = 0 ∧ ∃ ents clock, w.heap[p.b]? = some (.map ents clock) ∧ MapKept.Stamped ents clock ∧ VRs ρ (es.map (·.1)) (ents.toList.map (·.key)) ∧ VRs ρ (es.map (·.2)) (ents.toList.map (·.val))
theorem BR.mono {ρ ρ' : Ren} (hr : ρ.le ρ') {p : Pl} {w : World} {b : Body} (h : BR ρ p w b) : BR ρ' p w b := by
  cases b with
  | cells c => obtain ⟨cc, e, fr, h1, h2, h3, h5⟩ := h; exact ⟨cc, e, fr, h1, h2, h3, h5.mono hr⟩
  | map es => obtain ⟨h0, en, cl, h1, hs, h2, h3⟩ := h; exact ⟨h0, en, cl, h1, hs, h2.mono hr, h3.mono hr⟩
theorem BR.same {ρ : Ren} {p : Pl} {w w' : World} {b : Body} (h : BR ρ p w b) (hb : w'.heap[p.b]? = w.heap[p.b]?) : BR ρ p w' b := by
  cases b with
  | cells c => obtain ⟨cc, e, fr, h1, h2⟩ := h; exact ⟨cc, e, fr, hb.trans h1, h2⟩
  | map es => obtain ⟨h0, en, cl, h1, h2⟩ := h; exact ⟨h0, en, cl, hb.trans h1, h2⟩
/-- No string shares it. -/
def Free (p : Pl) (w : World) : Prop := (∀ k, p.s ≤ k → k < p.z → w.frozen? ⟨p.b, k, none⟩ = false) ∧ (p.m = false → w.frozen? ⟨p.b, p.z, none⟩ = false)
theorem World.frozen_same {w w' : World} {b k : Nat} (h : w'.heap[b]? = w.heap[b]?) : w'.frozen? ⟨b, k, none⟩ = w.frozen? ⟨b, k, none⟩ := by simp only [World.frozen?, h]
theorem Free.same {p : Pl} {w w' : World} (h : Free p w) (hb : w'.heap[p.b]? = w.heap[p.b]?) : Free p w' := ⟨fun k h1 h2 => by rw [World.frozen_same hb]; exact h.1 k h1 h2, fun hm => by rw [World.frozen_same hb]; exact h.2 hm⟩
def Body.len : Body → Nat
  | .cells c => c.length
  | .map _ => 0
/-- What a block's tag says of the row: the type of its variables; how many cells (0: no one says). -/
def tagOk (tn : Nat × Nat) (sh : Option (TypeId × Nat)) : Prop := ∃ n, sh = some (tn.1, n) ∧ (tn.2 ≠ 0 → n = tn.2)
structure Sim (B : Nat) (ρ : Ren) (σ : St) (w : World) : Prop where
  live : ∀ i blk, σ.get i = some blk → i < σ.next ∧ ∃ p, ρ i = some p ∧ BR ρ p w blk.body
  dom : ∀ i p, ρ i = some p → i < σ.next ∧ p.b < w.heap.size
  own : ∀ i blk p, σ.get i = some blk → ρ i = some p → blk.shut = false → B ≤ p.b
  free : ∀ i blk p, σ.get i = some blk → ρ i = some p → blk.shut = false → Free p w
  apart : ∀ i j bi bj p q, σ.get i = some bi → σ.get j = some bj → ρ i = some p → ρ j = some q → p.b = q.b → i ≠ j →
    (i ∈ bj.chain ∧ p.s + bi.body.len ≤ q.s + bj.body.len) ∨ (j ∈ bi.chain ∧ q.s + bj.body.len ≤ p.s + bi.body.len)
  below : ∀ i j bi bj, σ.get i = some bi → σ.get j = some bj → i ∈ bj.chain → bi.shut = true
  chain : ∀ j bj k, σ.get j = some bj → k ∈ bj.chain → k < σ.next
  tags : ∀ i blk p tn, σ.get i = some blk → ρ i = some p → blk.tag = some tn → p.s = 0 ∧ tagOk tn (w.shape? p.b)
theorem World.shape_same {w w' : World} {b : Nat} (h : w'.heap[b]? = w.heap[b]?) : w'.shape? b = w.shape? b := by simp only [World.shape?, h]
/-- From one state to a later one. -/
structure Ext (ρ : Ren) (σ : St) (w : World) (ρ' : Ren) (σ' : St) (w' : World) : Prop where
  ren : ρ.le ρ'
  size : w.heap.size ≤ w'.heap.size
  os : w'.os = w.os
  output : w'.output = w.output
  tape : w'.tape = w.tape
  next : σ.next ≤ σ'.next
  keep : ∀ b, b < w.heap.size → (∀ i blk p, σ.get i = some blk → blk.shut = false → ρ i = some p → p.b ≠ b) → w'.heap[b]? = w.heap[b]?
  shutAll : ∀ i blk p, σ'.get i = some blk → ρ' i = some p → w.heap.size ≤ p.b ∨ ∃ j blk' q, σ.get j = some blk' ∧ ρ j = some q ∧ q.b = p.b
  shutOpen : ∀ i blk p, σ'.get i = some blk → blk.shut = false → ρ' i = some p → w.heap.size ≤ p.b ∨ ∃ j blk' q, σ.get j = some blk' ∧ blk'.shut = false ∧ ρ j = some q ∧ q.b = p.b
  lives : ∀ i blk, σ'.get i = some blk → σ.next ≤ i ∨ ∃ blk', σ.get i = some blk'
  chains : ∀ j bj k, σ'.get j = some bj → k ∈ bj.chain → σ.next ≤ k ∨ ∃ j' bj', σ.get j' = some bj' ∧ (k = j' ∨ k ∈ bj'.chain)
  news : ∀ j p, ρ' j = some p → ρ j = some p ∨ σ.next ≤ j
theorem Ext.refl (ρ : Ren) (σ : St) (w : World) : Ext ρ σ w ρ σ w :=
  ⟨Ren.le_refl _, Nat.le_refl _, rfl, rfl, rfl, Nat.le_refl _, fun _ _ _ => rfl, fun i blk p h hp => .inr ⟨i, blk, p, h, hp, rfl⟩, fun i blk p h hs hp => .inr ⟨i, blk, p, h, hs, hp, rfl⟩,
    fun _ blk h => .inr ⟨blk, h⟩, fun j bj _ h hk => .inr ⟨j, bj, h, .inr hk⟩, fun _ _ h => .inl h⟩
theorem Ext.trans {ρ ρ1 ρ2 : Ren} {σ σ1 σ2 : St} {w w1 w2 : World} (h : Ext ρ σ w ρ1 σ1 w1) (h' : Ext ρ1 σ1 w1 ρ2 σ2 w2) : Ext ρ σ w ρ2 σ2 w2 where
  ren := Ren.le_trans h.ren h'.ren
  size := Nat.le_trans h.size h'.size
  os := h'.os.trans h.os
  output := h'.output.trans h.output
  tape := h'.tape.trans h.tape
  next := Nat.le_trans h.next h'.next
  keep := fun b hb hn => by
    rw [h'.keep b (Nat.lt_of_lt_of_le hb h.size) fun i blk p hi hs hp he => ?_, h.keep b hb hn]
    rcases h.shutOpen i blk p hi hs hp with hge | ⟨j, blk', q, hj, hs', hq, e⟩
    · omega
    · exact hn j blk' q hj hs' hq (e.trans he)
  shutAll := fun i blk p hi hp => by
    rcases h'.shutAll i blk p hi hp with hge | ⟨j, blk', q, hj, hq, e⟩
    · exact .inl (Nat.le_trans h.size hge)
    · rcases h.shutAll j blk' q hj hq with hge | ⟨k, b2, r, hk, hr, e'⟩
      · exact .inl (e ▸ hge)
      · exact .inr ⟨k, b2, r, hk, hr, e'.trans e⟩
  shutOpen := fun i blk p hi hs hp => by
    rcases h'.shutOpen i blk p hi hs hp with hge | ⟨j, blk', q, hj, hs', hq, e⟩
    · exact .inl (Nat.le_trans h.size hge)
    · rcases h.shutOpen j blk' q hj hs' hq with hge | ⟨k, b2, r, hk, hs2, hr, e'⟩
      · exact .inl (e ▸ hge)
      · exact .inr ⟨k, b2, r, hk, hs2, hr, e'.trans e⟩
  lives := fun i blk hi => by
    rcases h'.lives i blk hi with hge | ⟨b, hb⟩
    · exact .inl (Nat.le_trans h.next hge)
    · exact h.lives i b hb
  chains := fun j bj k hj hk => by
    rcases h'.chains j bj k hj hk with hge | ⟨j', bj', hj', rfl | hk'⟩
    · exact .inl (Nat.le_trans h.next hge)
    · rcases h.lives k bj' hj' with hge | ⟨b, hb⟩
      · exact .inl hge
      · exact .inr ⟨k, b, hb, .inl rfl⟩
    · exact h.chains j' bj' k hj' hk'
  news := fun j p hp => by
    rcases h'.news j p hp with h1 | h1
    · exact h.news j p h1
    · exact .inr (Nat.le_trans h.next h1)
/-- Whatever lay below B lies there as it lay. -/
theorem Ext.below {B : Nat} {ρ ρ' : Ren} {σ σ' : St} {w w' : World} (h : Ext ρ σ w ρ' σ' w') (hS : Sim B ρ σ w) (b : Nat) (hb : b < B) (hB : B ≤ w.heap.size) : w'.heap[b]? = w.heap[b]? :=
  h.keep b (Nat.lt_of_lt_of_le hb hB) fun i blk p hi hs hp => by have := hS.own i blk p hi hp hs; omega

/-! ### steps of the state -/
theorem St.get_put (h : Tr Blk) (i : Nat) (x : Option Blk) (n j : Nat) : ({ heap := h.put i x, next := n } : St).get j = if j = i then x else h.get j := Tr.get_put _ _ _ _
def Ren.put (ρ : Ren) (i : Nat) (p : Pl) : Ren := fun j => if j = i then some p else ρ j
theorem Ren.put_le {ρ : Ren} {i : Nat} {p : Pl} (h : ρ i = none) : ρ.le (ρ.put i p) := fun j q hq => by
  unfold Ren.put; by_cases e : j = i
  · subst e; rw [h] at hq; cases hq
  · rw [if_neg e]; exact hq
theorem Ren.put_self (ρ : Ren) (i : Nat) (p : Pl) : ρ.put i p i = some p := if_pos rfl
theorem Ren.put_ne (ρ : Ren) {i j : Nat} (p : Pl) (h : j ≠ i) : ρ.put i p j = ρ j := if_neg h
/-- The same but for the count of draws. -/
theorem Sim.world {B : Nat} {ρ : Ren} {σ : St} {w w' : World} (h : Sim B ρ σ w) (hh : w'.heap = w.heap) : Sim B ρ σ w' where
  live := fun i blk hi => let ⟨h1, p, hp, hb⟩ := h.live i blk hi; ⟨h1, p, hp, hb.same (by rw [hh])⟩
  dom := fun i p hp => by rw [hh]; exact h.dom i p hp
  own := h.own
  free := fun i blk p hi hp hs => (h.free i blk p hi hp hs).same (by rw [hh])
  apart := h.apart
  below := h.below
  chain := h.chain
  tags := fun i blk p tn hi hp ht => by have := h.tags i blk p tn hi hp ht; rw [World.shape_same (w := w) (w' := w') (by rw [hh])]; exact this
theorem Ext.world {ρ : Ren} {σ : St} {w w' : World} (hh : w'.heap = w.heap) (ho : w'.os = w.os) (hp : w'.output = w.output) (ht : w'.tape = w.tape) : Ext ρ σ w ρ σ w' where
  ren := Ren.le_refl _
  size := by rw [hh]; exact Nat.le_refl _
  os := ho
  output := hp
  tape := ht
  next := Nat.le_refl _
  keep := fun b _ _ => by rw [hh]
  shutAll := fun i blk p h hp => .inr ⟨i, blk, p, h, hp, rfl⟩
  shutOpen := fun i blk p h hs hp => .inr ⟨i, blk, p, h, hs, hp, rfl⟩
  lives := fun _ blk h => .inr ⟨blk, h⟩
  chains := fun j bj _ h hk => .inr ⟨j, bj, h, .inr hk⟩
  news := fun _ _ h => .inl h
/-- A block that no live one lies in is taken in. -/
theorem Sim.take {B : Nat} {ρ : Ren} {σ : St} {w : World} (h : Sim B ρ σ w) {i : Nat} {p : Pl} {body : Body} {n : Nat} (hn : σ.next ≤ n) (hi : i < n) (hd : σ.get i = none) (hp : ρ i = some p)
    (hbr : BR ρ p w body) (hB : B ≤ p.b) (hfree : ∀ j blk q, σ.get j = some blk → ρ j = some q → q.b ≠ p.b)
    (hch : ∀ j bj, σ.get j = some bj → i ∉ bj.chain) (hfr : Free p w) {tag : Option (Nat × Nat)} (htag : ∀ tn, tag = some tn → p.s = 0 ∧ tagOk tn (w.shape? p.b)) :
    Sim B ρ { heap := σ.heap.put i (some { body, chain := [], shut := false, tag }), next := n } w where
  tags := fun j blk q tn hj hq ht => by
    rw [St.get_put] at hj
    by_cases e : j = i
    · subst e; rw [if_pos rfl] at hj; cases hj; rw [hp] at hq; cases hq; exact htag tn ht
    · rw [if_neg e] at hj; exact h.tags j blk q tn hj hq ht
  live := fun j blk hj => by
    rw [St.get_put] at hj
    by_cases e : j = i
    · subst e; rw [if_pos rfl] at hj; cases hj; exact ⟨hi, p, hp, hbr⟩
    · rw [if_neg e] at hj; obtain ⟨h1, h2⟩ := h.live j blk hj; exact ⟨Nat.lt_of_lt_of_le h1 hn, h2⟩
  dom := fun j q hq => let ⟨h1, h2⟩ := h.dom j q hq; ⟨Nat.lt_of_lt_of_le h1 hn, h2⟩
  own := fun j blk q hj hq hs => by
    rw [St.get_put] at hj
    by_cases e : j = i
    · subst e; rw [hp] at hq; cases hq; exact hB
    · rw [if_neg e] at hj; exact h.own j blk q hj hq hs
  free := fun j blk q hj hq hs => by
    rw [St.get_put] at hj
    by_cases e : j = i
    · subst e; rw [hp] at hq; cases hq; exact hfr
    · rw [if_neg e] at hj; exact h.free j blk q hj hq hs
  apart := fun j k bj bk q r hj hk hq hr e hne => by
    rw [St.get_put] at hj hk
    by_cases e1 : j = i
    · subst e1
      rw [if_neg (fun h => hne h.symm)] at hk
      rw [hp] at hq; cases hq
      exact absurd e.symm (hfree k bk r hk hr)
    · rw [if_neg e1] at hj
      by_cases e2 : k = i
      · subst e2; rw [hp] at hr; cases hr
        exact absurd e (hfree j bj q hj hq)
      · rw [if_neg e2] at hk; exact h.apart j k bj bk q r hj hk hq hr e hne
  below := fun j k bj bk hj hk hm => by
    rw [St.get_put] at hj hk
    by_cases e2 : k = i
    · subst e2; rw [if_pos rfl] at hk; cases hk; simp at hm
    · rw [if_neg e2] at hk
      by_cases e1 : j = i
      · subst e1; exact absurd hm (hch k bk hk)
      · rw [if_neg e1] at hj; exact h.below j k bj bk hj hk hm
  chain := fun j bj k hj hk => by
    rw [St.get_put] at hj
    by_cases e : j = i
    · subst e; rw [if_pos rfl] at hj; cases hj; simp at hk
    · rw [if_neg e] at hj; exact Nat.lt_of_lt_of_le (h.chain j bj k hj hk) hn
/-- New memory. -/
def World.more (w w' : World) (o : Obj) : Prop := w'.heap = w.heap.push o ∧ w'.os = w.os ∧ w'.output = w.output ∧ w'.tape = w.tape
theorem World.more_old {w w' : World} {o : Obj} (h : World.more w w' o) {b : Nat} (hb : b < w.heap.size) : w'.heap[b]? = w.heap[b]? := by
  rw [h.1, Array.getElem?_push_lt hb, Array.getElem?_eq_getElem hb]
theorem World.more_new {w w' : World} {o : Obj} (h : World.more w w' o) : w'.heap[w.heap.size]? = some o := by rw [h.1]; simp
theorem Sim.later {B : Nat} {ρ ρ' : Ren} {σ : St} {w w' : World} (h : Sim B ρ σ w) (hr : ρ.le ρ') (hs : w.heap.size ≤ w'.heap.size) (hh : ∀ b, b < w.heap.size → w'.heap[b]? = w.heap[b]?)
    (hd : ∀ i p, ρ' i = some p → ρ i = some p ∨ (i < σ.next ∧ p.b < w'.heap.size ∧ σ.get i = none)) : Sim B ρ' σ w' where
  live := fun i blk hi => let ⟨h1, p, hp, hb⟩ := h.live i blk hi; ⟨h1, p, hr _ _ hp, (hb.mono hr).same (hh _ (h.dom i p hp).2)⟩
  dom := fun i p hp => by
    rcases hd i p hp with h0 | ⟨h1, h2, _⟩
    · exact ⟨(h.dom i p h0).1, Nat.lt_of_lt_of_le (h.dom i p h0).2 hs⟩
    · exact ⟨h1, h2⟩
  own := fun i blk p hi hp hs => by
    obtain ⟨_, q, hq, _⟩ := h.live i blk hi
    have : p = q := by have := hr _ _ hq; rw [hp] at this; cases this; rfl
    subst this; exact h.own i blk p hi hq hs
  free := fun i blk p hi hp hs => by
    obtain ⟨_, q, hq, _⟩ := h.live i blk hi
    have : p = q := by have := hr _ _ hq; rw [hp] at this; cases this; rfl
    subst this; exact (h.free i blk p hi hq hs).same (hh _ (h.dom i p hq).2)
  apart := fun i j bi bj p q hi hj hp hq e hne => by
    obtain ⟨_, p', hp', _⟩ := h.live i bi hi
    obtain ⟨_, q', hq', _⟩ := h.live j bj hj
    have e1 : p = p' := by have := hr _ _ hp'; rw [hp] at this; cases this; rfl
    have e2 : q = q' := by have := hr _ _ hq'; rw [hq] at this; cases this; rfl
    subst e1; subst e2
    exact h.apart i j bi bj p q hi hj hp' hq' e hne
  below := h.below
  chain := h.chain
  tags := fun i blk p tn hi hp ht => by
    obtain ⟨_, q, hq, _⟩ := h.live i blk hi
    have : p = q := by have := hr _ _ hq; rw [hp] at this; cases this; rfl
    subst this; have := h.tags i blk p tn hi hq ht; rw [World.shape_same (hh _ (h.dom i p hq).2)]; exact this
theorem Sim.fresh {B : Nat} {ρ : Ren} {σ : St} {w : World} (h : Sim B ρ σ w) {i : Nat} (hi : σ.next ≤ i) : ρ i = none ∧ σ.get i = none ∧ ∀ j bj, σ.get j = some bj → i ∉ bj.chain := by
  refine ⟨?_, ?_, fun j bj hj hm => by have := h.chain j bj i hj hm; omega⟩
  · cases e : ρ i with
    | none => rfl
    | some p => have := (h.dom i p e).1; omega
  · cases e : σ.get i with
    | none => rfl
    | some b => have := (h.live i b e).1; omega
/-- A new block comes, and is taken in at once. -/
theorem Sim.push {B : Nat} {ρ : Ren} {σ : St} {w w' : World} (h : Sim B ρ σ w) (hB : B ≤ w.heap.size) {o : Obj} (hm : World.more w w' o) {body : Body} {p : Pl} (hp : p.b = w.heap.size)
    (hbr : BR (ρ.put σ.next p) p w' body) (hfr : Free p w') {tag : Option (Nat × Nat)} (htag : ∀ tn, tag = some tn → p.s = 0 ∧ tagOk tn (w'.shape? p.b)) :
    Sim B (ρ.put σ.next p) (σ.push body tag) w' ∧ Ext ρ σ w (ρ.put σ.next p) (σ.push body tag) w' := by
  obtain ⟨f1, f2, f3⟩ := h.fresh (Nat.le_refl σ.next)
  have hsz : w'.heap.size = w.heap.size + 1 := by rw [hm.1]; simp
  have hle := Ren.put_le (p := p) f1
  have h0 : Sim B ρ { σ with next := σ.next + 1 } w :=
    { live := fun i blk hi => let ⟨a, b⟩ := h.live i blk hi; ⟨Nat.lt_succ_of_lt a, b⟩
      dom := fun i q hq => let ⟨a, b⟩ := h.dom i q hq; ⟨Nat.lt_succ_of_lt a, b⟩
      own := h.own, free := h.free, apart := h.apart, below := h.below, chain := fun j bj k hj hk => Nat.lt_succ_of_lt (h.chain j bj k hj hk), tags := h.tags }
  have h1 := h0.later hle (by omega) (fun b hb => World.more_old hm hb) (w' := w') (fun i q hq => by
    by_cases e : i = σ.next
    · subst e; rw [Ren.put_self] at hq; cases hq; exact .inr ⟨Nat.lt_succ_self _, by omega, f2⟩
    · rw [Ren.put_ne _ _ e] at hq; exact .inl hq)
  refine ⟨h1.take (n := σ.next + 1) (Nat.le_refl _) (Nat.lt_succ_self _) f2 (Ren.put_self _ _ _) hbr (by omega) (fun j blk q hj hq => ?_) f3 hfr htag, ?_⟩
  · by_cases e : j = σ.next
    · subst e; rw [show ({ σ with next := σ.next + 1 } : St).get σ.next = σ.get σ.next from rfl, f2] at hj; cases hj
    · rw [Ren.put_ne _ _ e] at hq; have := (h.dom j q hq).2; omega
  · refine ⟨hle, by omega, hm.2.1, hm.2.2.1, hm.2.2.2, Nat.le_succ _, fun b hb _ => World.more_old hm hb, fun i blk q hi hq => ?_, fun i blk q hi hs hq => ?_, fun i blk hi => ?_, fun j bj k hj hk => ?_, fun j q hq => ?_⟩
    · by_cases e : i = σ.next
      · subst e; rw [Ren.put_self] at hq; cases hq; exact .inl (by omega)
      · rw [St.push, St.get_put, if_neg e] at hi; rw [Ren.put_ne _ _ e] at hq; exact .inr ⟨i, blk, q, hi, hq, rfl⟩
    · by_cases e : i = σ.next
      · subst e; rw [Ren.put_self] at hq; cases hq; exact .inl (by omega)
      · rw [St.push, St.get_put, if_neg e] at hi; rw [Ren.put_ne _ _ e] at hq; exact .inr ⟨i, blk, q, hi, hs, hq, rfl⟩
    · by_cases e : i = σ.next
      · exact .inl (by omega)
      · rw [St.push, St.get_put, if_neg e] at hi; exact .inr ⟨blk, hi⟩
    · by_cases e : j = σ.next
      · subst e; rw [St.push, St.get_put, if_pos rfl] at hj; cases hj; simp at hk
      · rw [St.push, St.get_put, if_neg e] at hj; exact .inr ⟨j, bj, hj, .inr hk⟩
    · by_cases e : j = σ.next
      · exact .inr (by omega)
      · rw [Ren.put_ne _ _ e] at hq; exact .inl hq
end
end Go.AM
