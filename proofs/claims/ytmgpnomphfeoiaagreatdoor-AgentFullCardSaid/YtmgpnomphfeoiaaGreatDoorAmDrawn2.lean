import Derived.Test.YtmgpnomphfeoiaaGreatDoorAmDrawn
set_option linter.all false
namespace Go.AM
noncomputable section
section
variable {P : Program} {X : Prims} {call : Caller} {ops : Array Oper} {base : Nat} {ms : List Nat} {plan : List (Nat × Nat)} {S : Nat → DS} {V : Nat → Value} {B : Nat}
/-- The operation at a place makes new memory. -/
def MakesNew (P : Program) (ops : Array Oper) (S : Nat → DS) (q i : Nat) (body : Body) : Prop :=
  ∃ o mk, ops.toList[i]? = some o ∧ wantedV ops.toList (S q).a o = some true ∧ opV P (S q).a.eval (S q).σ o = some (.new mk body)
/-- The state of affairs: D: what has been done; all places below p have, and no heavy one from p on. -/
structure Inv (P : Program) (ops : Array Oper) (base : Nat) (plan : List (Nat × Nat)) (S : Nat → DS) (V : Nat → Value) (B : Nat) (ρ0 : Ren) (σ0 : St) (w0 : World) (D : Nat → Prop) (p : Nat) (ρ : Ren) (ac : Go.Act) (w : World) : Prop where
  closed : ∀ i o, D i → ops.toList[i]? = some o → ∀ e ∈ o.after.toList, Region.binds .any e = true → D e.on
  low : ∀ (q i m : Nat), q < p → plan[q]? = some (i, m) → D i
  le : p ≤ plan.length
  high : ∀ (q i m : Nat) (o : Oper), p ≤ q → plan[q]? = some (i, m) → ops.toList[i]? = some o → isHeavy o = true → ¬ D i
  sim : Sim B ρ (S p).σ w
  ext : Ext ρ0 σ0 w0 ρ (S p).σ w
  size : (S 0).a.size = ac.tmps.size
  defers : DRs ρ (S 0).a.defers ac.defers
  done : ∀ (q i m : Nat) (o : Oper) (t : Nat), plan[q]? = some (i, m) → ops.toList[i]? = some o → o.dst = some t → D i → VR ρ (V q) (ac.tmps.getD t Go.undef)
  open_ : ∀ (t : Nat), (∀ (q i m : Nat) (o : Oper), plan[q]? = some (i, m) → ops.toList[i]? = some o → o.dst = some t → ¬ D i) → VR ρ ((S 0).a.look t) (ac.tmps.getD t Go.undef)
  extra : ∀ (q i m : Nat) (body : Body), p ≤ q → plan[q]? = some (i, m) → D i → MakesNew P ops S q i body → ∃ pl, ρ (base + i) = some pl ∧ BR ρ pl w body ∧ Free pl w ∧ B ≤ pl.b ∧ w0.heap.size ≤ pl.b ∧
    ∀ j blk r, (S p).σ.get j = some blk → ρ j = some r → r.b ≠ pl.b
  apart : ∀ (q i m q' i' m' : Nat) (body body' : Body) (pl pl' : Pl), p ≤ q → plan[q]? = some (i, m) → D i → MakesNew P ops S q i body → p ≤ q' → plan[q']? = some (i', m') → D i' → MakesNew P ops S q' i' body' → i ≠ i' → ρ (base + i) = some pl → ρ (base + i') = some pl' → pl.b ≠ pl'.b
  blank : ∀ (i : Nat) (o : Oper), ops.toList[i]? = some o → ¬ D i → ρ (base + i) = none
  room : ∀ (q i m : Nat), p ≤ q → plan[q]? = some (i, m) → (S p).σ.get (base + i) = none ∧ ∀ j bj, (S p).σ.get j = some bj → base + i ∉ bj.chain
  next : base + ops.size ≤ (S p).σ.next
variable {ρ0 : Ren} {σ0 : St} {w0 : World} {D : Nat → Prop} {p : Nat} {ρ : Ren} {ac : Go.Act} {w : World}
theorem Inv.hB (I : Inv P ops base plan S V B ρ0 σ0 w0 D p ρ ac w) (h : B ≤ w0.heap.size) : B ≤ w.heap.size := Nat.le_trans h I.ext.size
/-- A place that has been done, and is no heavy one, is passed. -/
theorem Inv.absorb (hP : Plan ops.toList ms plan) (hR : DRun P X call ops.toList base plan S V) (I : Inv P ops base plan S V B ρ0 σ0 w0 D p ρ ac w) {i m : Nat} (hp : plan[p]? = some (i, m)) (hD : D i) (hlo : σ0.next ≤ base) :
    Inv P ops base plan S V B ρ0 σ0 w0 D (p + 1) ρ ac w := by
  obtain ⟨o, hd⟩ := hR.step p i m hp
  have hlt : p < plan.length := (List.getElem?_eq_some_iff.1 hp).1
  have hnh : isHeavy o = false := by
    cases h : isHeavy o with
    | false => rfl
    | true => exact absurd hD (I.high p i m o (Nat.le_refl _) hp hd.op h)
  have hin : i < ops.size := by have := (List.getElem?_eq_some_iff.1 hd.op).1; simpa using this
  have uniq : ∀ (q i' m' : Nat), p + 1 ≤ q → plan[q]? = some (i', m') → i' ≠ i := by
    intro q i' m' hq h e
    subst e
    obtain ⟨_, _, _, h4, _⟩ := hP.at_ q i' m' h
    exact h4 p m (by omega) hp
  -- either the state stays, or one block comes
  have main : ∀ (hsim : Sim B ρ (S (p + 1)).σ w) (hext : Ext ρ0 σ0 w0 ρ (S (p + 1)).σ w)
      (hget : ∀ j blk, (S (p + 1)).σ.get j = some blk → (S p).σ.get j = some blk ∨ (j = base + i ∧ blk.chain = [] ∧ ∃ body, MakesNew P ops S p i body)) (hnx : (S (p + 1)).σ.next = (S p).σ.next), Inv P ops base plan S V B ρ0 σ0 w0 D (p + 1) ρ ac w := by
    intro hsim hext hget hnx
    exact {
      closed := I.closed
      low := fun q i' m' hq h => by
        by_cases e : q = p
        · subst e; rw [hp] at h; cases h; exact hD
        · exact I.low q i' m' (by omega) h
      le := hlt
      high := fun q i' m' o' hq => I.high q i' m' o' (by omega)
      sim := hsim
      ext := hext
      size := I.size
      defers := I.defers
      done := I.done
      open_ := I.open_
      extra := fun q i' m' body hq h hDi hm => by
        obtain ⟨pl, h1, h2, h3, h4, h5, h6⟩ := I.extra q i' m' body (by omega) h hDi hm
        refine ⟨pl, h1, h2, h3, h4, h5, fun j blk r hj hr => ?_⟩
        rcases hget j blk hj with hj' | ⟨rfl, _, body', hm'⟩
        · exact h6 j blk r hj' hr
        · exact I.apart p i m q i' m' body' body r pl (Nat.le_refl _) hp hD hm' (by omega) h hDi hm (fun e => uniq q i' m' hq h e.symm) hr h1
      apart := fun q i' m' q' i'' m'' body body' pl pl' hq h1 h2 h3 hq' => I.apart q i' m' q' i'' m'' body body' pl pl' (by omega) h1 h2 h3 (by omega)
      blank := I.blank
      room := fun q i' m' hq h => by
        obtain ⟨r1, r2⟩ := I.room q i' m' (by omega) h
        have hne := uniq q i' m' hq h
        constructor
        · cases hg : (S (p + 1)).σ.get (base + i') with
          | none => rfl
          | some blk =>
            rcases hget _ _ hg with hj | ⟨e, _⟩
            · rw [r1] at hj; cases hj
            · omega
        · intro j bj hj
          rcases hget j bj hj with hj' | ⟨_, e, _⟩
          · exact r2 j bj hj'
          · rw [e]; simp
      next := by rw [hnx]; exact I.next }
  rcases hd.kind with ⟨_, e, _⟩ | ⟨hw, ⟨_, _, e, _⟩ | ⟨_, mk, body, hop, hn, e, _⟩ | ⟨h', _⟩⟩
  · exact main (by rw [e]; exact I.sim) (by rw [e]; exact I.ext) (fun j blk hj => .inl (by rwa [e] at hj)) (by rw [e])
  · exact main (by rw [e]; exact I.sim) (by rw [e]; exact I.ext) (fun j blk hj => .inl (by rwa [e] at hj)) (by rw [e])
  · have hm : MakesNew P ops S p i body := ⟨o, mk, hd.op, hw, hop⟩
    obtain ⟨pl, h1, h2, h3, h4, h5, h6⟩ := I.extra p i m body (Nat.le_refl _) hp hD hm
    obtain ⟨r1, r2⟩ := I.room p i m (Nat.le_refl _) hp
    have hnx : (S (p + 1)).σ.next = (S p).σ.next := by rw [e]
    have hlt2 : base + i < (S p).σ.next := by have := I.next; omega
    have get : ∀ j blk, (S (p + 1)).σ.get j = some blk → (j = base + i ∧ blk = { body, chain := [], shut := false }) ∨ (S p).σ.get j = some blk := by
      intro j blk hj
      rw [e, St.get_put] at hj
      by_cases ej : j = base + i
      · rw [if_pos ej] at hj; cases hj; exact .inl ⟨ej, rfl⟩
      · rw [if_neg ej] at hj; exact .inr hj
    refine main ?_ ?_ (fun j blk hj => ?_) hnx
    · rw [e]
      exact I.sim.take (n := (S p).σ.next) (Nat.le_refl _) hlt2 r1 h1 h2 h4 h6 r2 h3 (tag := none) (fun _ h => by cases h)
    · have E := I.ext
      exact { ren := E.ren, size := E.size, os := E.os, output := E.output, tape := E.tape, next := by rw [hnx]; exact E.next, keep := E.keep, news := E.news
              shutAll := fun j blk r hj hr => by
                rcases get j blk hj with ⟨rfl, rfl⟩ | hj
                · rw [h1] at hr; cases hr; exact .inl h5
                · exact E.shutAll j blk r hj hr
              shutOpen := fun j blk r hj hs hr => by
                rcases get j blk hj with ⟨rfl, rfl⟩ | hj
                · rw [h1] at hr; cases hr; exact .inl h5
                · exact E.shutOpen j blk r hj hs hr
              lives := fun j blk hj => by
                rcases get j blk hj with ⟨rfl, rfl⟩ | hj
                · exact .inl (by omega)
                · exact E.lives j blk hj
              chains := fun j bj k hj hk => by
                rcases get j bj hj with ⟨rfl, rfl⟩ | hj
                · simp at hk
                · exact E.chains j bj k hj hk }
    · rcases get j blk hj with ⟨rfl, rfl⟩ | hj
      · exact .inr ⟨rfl, rfl, body, hm⟩
      · exact .inl hj
  · rw [hnh] at h'; cases h'
theorem Inv.absorbAll (hP : Plan ops.toList ms plan) (hR : DRun P X call ops.toList base plan S V) (hlo : σ0.next ≤ base) : ∀ (n p : Nat), Inv P ops base plan S V B ρ0 σ0 w0 D p ρ ac w → p + n ≤ plan.length → (∀ (q i m : Nat), p ≤ q → q < p + n → plan[q]? = some (i, m) → D i) →
    Inv P ops base plan S V B ρ0 σ0 w0 D (p + n) ρ ac w
  | 0, p, I, _, _ => I
  | n + 1, p, I, h, hD => by
    obtain ⟨i, m, hx⟩ : ∃ i m, plan[p]? = some (i, m) := ⟨_, _, List.getElem?_eq_getElem (by omega)⟩
    have := absorbAll hP hR hlo n (p + 1) (I.absorb hP hR hx (hD p i m (Nat.le_refl _) (by omega) hx) hlo) (by omega) fun q i m h1 h2 => hD q i m (by omega) (by omega)
    rwa [show p + 1 + n = p + (n + 1) by omega] at this
/-- The slots that an operation names hold what the abstract run finds there. -/
theorem Inv.slots (hP : Plan ops.toList ms plan) (hR : DRun P X call ops.toList base plan S V) (I : Inv P ops base plan S V B ρ0 σ0 w0 D p ρ ac w) {q i m : Nat} {o : Oper} (hq : plan[q]? = some (i, m)) (ho : ops.toList[i]? = some o)
    (hnD : ¬ D i) (hmask : ∀ j, Nat.testBit m j = true → D j) : ∀ t, t ∈ readsOf ops.toList o → VR ρ ((S q).a.look t) (ac.tmps.getD t Go.undef) := by
  intro t ht
  have hlt : q < plan.length := (List.getElem?_eq_some_iff.1 hq).1
  obtain ⟨l1, l2⟩ := look_at hP hR t q (by omega)
  obtain ⟨o', ho', hm, hu, hb, hh⟩ := hP.at_ q i m hq
  rw [ho] at ho'; cases ho'
  by_cases hex : ∃ (q' j m' : Nat) (pp : Oper), plan[q']? = some (j, m') ∧ ops.toList[j]? = some pp ∧ pp.dst = some t ∧ j ≠ i
  · obtain ⟨q', j, m', pp, h1, h2, h3, hne⟩ := hex
    rcases hP.reads i j o pp t (fun e => hne e.symm) ho h2 h3 ht with hb1 | hb1
    · rw [hm] at hb1
      -- it came before
      obtain ⟨q2, m2, hq2, h5⟩ := hb j hb1
      have : q2 = q' := by
        rcases Nat.lt_trichotomy q2 q' with h | h | h
        · obtain ⟨_, _, _, hu', _⟩ := hP.at_ q' j m' h1
          exact absurd h5 (hu' q2 m2 h)
        · exact h
        · obtain ⟨_, _, _, hu', _⟩ := hP.at_ q2 j m2 h5
          exact absurd h1 (hu' q' m' h)
      subst this
      rw [l1 q2 j m' pp hq2 h1 h2 h3]
      exact I.done q2 j m' pp t h1 h2 h3 (hmask j hb1)
    · -- it comes after
      obtain ⟨o2, ho2, hm2, _, hb2, _⟩ := hP.at_ q' j m' h1
      rw [hm2] at hb1
      have hnDj : ¬ D j := fun hDj => by
        have := hP.masks.closed (D := D) I.closed j pp h2 (I.closed j pp hDj h2) i (by rw [hm2]; exact hb1)
        exact hnD this
      rw [l2 fun q2 i2 m2 o2 hlt2 g1 g2 g3 => ?_]
      · refine I.open_ t fun q2 i2 m2 o2 g1 g2 g3 => ?_
        by_cases e : i2 = j
        · subst e; exact hnDj
        · exact absurd g3 (hP.once i2 j o2 pp t e g2 h2 h3)
      · by_cases e : i2 = j
        · subst e
          -- j at q2 < q: but i comes before j
          obtain ⟨q3, m3, hq3, g5⟩ := hb2 i hb1
          have e2 : q2 = q' := by
            rcases Nat.lt_trichotomy q2 q' with h | h | h
            · obtain ⟨_, _, _, hu', _⟩ := hP.at_ q' i2 m' h1
              exact absurd g1 (hu' q2 m2 h)
            · exact h
            · obtain ⟨_, _, _, hu', _⟩ := hP.at_ q2 i2 m2 g1
              exact absurd h1 (hu' q' m' h)
          subst e2
          exact absurd g5 (hu q3 m3 (by omega))
        · exact absurd g3 (hP.once i2 j o2 pp t e g2 h2 h3)
  · have hno : ∀ (q' j m' : Nat) (pp : Oper), plan[q']? = some (j, m') → ops.toList[j]? = some pp → pp.dst = some t → j = i := by
      intro q' j m' pp h1 h2 h3
      by_cases e : j = i
      · exact e
      · exact absurd ⟨q', j, m', pp, h1, h2, h3, e⟩ hex
    rw [l2 fun q2 i2 m2 o2 hlt2 g1 g2 g3 => ?_]
    · exact I.open_ t fun q2 i2 m2 o2 g1 g2 g3 => by rw [hno q2 i2 m2 o2 g1 g2 g3]; exact hnD
    · have := hno q2 i2 m2 o2 g1 g2 g3
      subst this
      exact absurd g1 (hu q2 m2 hlt2)
/-- Memory as far as it is known at a later place, where no heavy operation lies between. -/
theorem Inv.local (hR : DRun P X call ops.toList base plan S V) (I : Inv P ops base plan S V B ρ0 σ0 w0 D p ρ ac w) : ∀ q, p ≤ q → q ≤ plan.length → (∀ (r i m : Nat) (o : Oper), p ≤ r → r < q → plan[r]? = some (i, m) → ops.toList[i]? = some o → isHeavy o = false) → Local ρ (S q).σ w
  | 0, h, _, _ => by rw [show (0 : Nat) = p by omega]; exact I.sim.local
  | q + 1, h, hq, hl => by
    by_cases e : p = q + 1
    · rw [← e]; exact I.sim.local
    · have ih := Inv.local hR I q (by omega) (by omega) fun r i m o h1 h2 => hl r i m o h1 (by omega)
      obtain ⟨i, m, hx⟩ : ∃ i m, plan[q]? = some (i, m) := ⟨_, _, List.getElem?_eq_getElem (by omega)⟩
      obtain ⟨o, hd⟩ := hR.step q i m hx
      have hnh := hl q i m o (by omega) (by omega) hx hd.op
      rcases hd.kind with ⟨_, e, _⟩ | ⟨hw, ⟨_, _, e, _⟩ | ⟨_, mk, body, hop, hn, e, _⟩ | ⟨h', _⟩⟩
      · rw [e]; exact ih
      · rw [e]; exact ih
      · intro j blk pl hj hpl
        rw [e, St.get_put] at hj
        by_cases ej : j = base + i
        · rw [if_pos ej] at hj; cases hj
          subst ej
          by_cases hD : D i
          · obtain ⟨pl', h1, h2, _⟩ := I.extra q i m body (by omega) hx hD ⟨o, mk, hd.op, hw, hop⟩
            rw [h1] at hpl; cases hpl; exact h2
          · rw [I.blank i o hd.op hD] at hpl; cases hpl
        · rw [if_neg ej] at hj; exact ih j blk pl hj hpl
      · rw [hnh] at h'; cases h'
/-- A light operation that is ready: what it comes to, on a state that memory bears. -/
theorem Inv.lightVal (hP : Plan ops.toList ms plan) (hR : DRun P X call ops.toList base plan S V) (h0 : (S 0).b = (S 0).σ) (I : Inv P ops base plan S V B ρ0 σ0 w0 D p ρ ac w) {q i m : Nat} {o : Oper} (hpq : p ≤ q) (hq : plan[q]? = some (i, m)) (hd : DStep P X call ops.toList base i m (S q) (S (q + 1)) o (V q))
    (hmask : ∀ j, Nat.testBit m j = true → D j) (hl : isHeavy o = false) {v : Value} (hop : opV P (S q).a.eval (S q).σ o = some (.val v)) (hs : isRead o = true → seenSame P (S q).a.eval o m v (S q).hist = true) :
    ∃ σ', Local ρ σ' w ∧ opV P (S q).a.eval σ' o = some (.val v) := by
  have hlt : q < plan.length := (List.getElem?_eq_some_iff.1 hq).1
  cases hr : isRead o with
  | false => exact ⟨{ heap := .leaf, next := 0 }, (fun j blk pl hj => by cases hj), pure_same hl hr hop _⟩
  | true =>
    by_cases hex : ∃ (r i' m' : Nat) (o' : Oper), p ≤ r ∧ r < q ∧ plan[r]? = some (i', m') ∧ ops.toList[i']? = some o' ∧ isHeavy o' = true
    · -- the first heavy one from p on
      have hmin : ∃ r, (∃ (i' m' : Nat) (o' : Oper), p ≤ r ∧ r < q ∧ plan[r]? = some (i', m') ∧ ops.toList[i']? = some o' ∧ isHeavy o' = true) ∧ ∀ (r2 i' m' : Nat) (o' : Oper), p ≤ r2 → r2 < r → plan[r2]? = some (i', m') → ops.toList[i']? = some o' → isHeavy o' = false := by
        obtain ⟨r, h⟩ := hex
        induction r using Nat.strongRecOn with
        | _ r ih =>
          by_cases hb : ∃ r2, r2 < r ∧ ∃ (i' m' : Nat) (o' : Oper), p ≤ r2 ∧ r2 < q ∧ plan[r2]? = some (i', m') ∧ ops.toList[i']? = some o' ∧ isHeavy o' = true
          · obtain ⟨r2, hlt2, h2⟩ := hb; exact ih r2 hlt2 h2
          · refine ⟨r, h, fun r2 i' m' o' h1 h2 h3 h4 => ?_⟩
            cases hh : isHeavy o' with
            | false => rfl
            | true => exact absurd ⟨r2, h2, i', m', o', h1, by obtain ⟨_, _, _, _, h, _⟩ := h; omega, h3, h4, hh⟩ hb
      obtain ⟨r, ⟨i', m', o', g1, g2, g3, g4, g5⟩, hfirst⟩ := hmin
      obtain ⟨τ, hmem, hτ⟩ := hist_at hR g3 g4 g5 q g2 (by omega)
      have hbase := base_between hR r g1 (by omega) fun q2 i2 m2 o2 h1 h2 => hfirst q2 i2 m2 o2 h1 h2
      refine ⟨τ, fun j blk pl hj hpl => ?_, ?_⟩
      · rcases hτ j blk hj with hj | ⟨q', k1, k2, i2, m2, o2, mk, body, k3, rfl, k5, k6, k7, k8, rfl⟩
        · rw [hbase] at hj
          exact I.sim.local j blk pl (base_at hR h0 p I.le j blk hj) hpl
        · by_cases hD2 : D i2
          · obtain ⟨pl', h1, h2, _⟩ := I.extra q' i2 m2 body (by omega) k3 hD2 ⟨o2, mk, k5, k6, k8⟩
            rw [h1] at hpl; cases hpl; exact h2
          · rw [I.blank i2 o2 k5 hD2] at hpl; cases hpl
      · rcases seenSame_spec (hs hr) _ _ hmem with h | h
        · exact absurd (hmask _ h) (I.high r i' m' o' g1 g3 g4 g5)
        · exact h
    · refine ⟨(S q).σ, I.local hR q hpq (by omega) fun r i' m' o' h1 h2 h3 h4 => ?_, hop⟩
      cases hh : isHeavy o' with
      | false => rfl
      | true => exact absurd ⟨r, i', m', o', h1, h2, h3, h4, hh⟩ hex
end
end
end Go.AM
