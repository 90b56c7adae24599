import Derived.Test.YtmgpnomphfeoiaaGreatDoorAmInsert
set_option linter.all false
namespace Go.AM
noncomputable section
open Go.RowKit (Below)
open Go.Proofs (encStr)
open Go.MapKept
open Go.WideElems (Fit rd rg)
theorem insert_perm {H : Type} (x : Lit × DataW H) : ∀ l, (DataW.insert x l).Perm (x :: l)
  | [] => List.Perm.refl _
  | y :: r => by
    simp only [DataW.insert]
    split
    · exact List.Perm.refl _
    · exact ((insert_perm x r).cons y).trans (List.Perm.swap x y r)
theorem sorted_perm {H : Type} : ∀ l : List (Lit × DataW H), (l.foldr DataW.insert []).Perm l
  | [] => List.Perm.refl _
  | x :: r => by rw [List.foldr_cons]; exact (insert_perm x _).trans ((sorted_perm r).cons x)
def plainR (_ : Value) : Option (DataW Unit × List MemPlace) := some (.nil, [])
theorem own_keys {P : Program} {k : TypeId} (hk : P.underlying k = some .string) {w : World} {b : Nat} {ents : Array MapEntry} {clock : Nat} (hb : w.heap[b]? = some (.map ents clock)) (hst : Stamped ents clock) {l : List (List UInt8)}
    (hkeys : ents.toList.map (·.key) = strRow l) (hl : l.length ≤ 1048576) (hsm : ∀ x ∈ l, x.length ≤ 1048576) :
    ∃ D : DataW Unit, w.ownsMap P k plainR b ents.size D ∧ (strKeys D).Perm l ∧ Maps.size D = l.length := by
  have hlen : ents.size = l.length := by have := congrArg List.length hkeys; simpa [strRow] using this
  have hread : ∀ x ∈ ents.toList, ∃ y ∈ l, x.key = .string ⟨⟨y⟩⟩ ∧ rd P k plainR x = some (.string y, .nil) := fun x hx => by
    have : x.key ∈ strRow l := by rw [← hkeys]; exact List.mem_map_of_mem hx
    obtain ⟨y, hy, e⟩ := List.mem_map.1 this
    refine ⟨y, hy, e.symm, ?_⟩
    have hs : (⟨⟨y⟩⟩ : ByteArray).size ≤ maxLen := by have := hsm y hy; simp [ByteArray.size, maxLen]; omega
    simp [WideElems.rd, ← e, keyOf, hk, mapKey, hs, plainR]
  have hfit : Fit P k plainR ents clock := ⟨by simp only [maxLen]; omega, hst, fun x hx => let ⟨y, _, _, h⟩ := hread x hx; ⟨_, h⟩⟩
  refine ⟨.map ((ents.toList.map (rg P k plainR)).foldr DataW.insert []), ⟨ents, clock, hb, hfit, Nat.le_refl _, rfl⟩, ?_, ?_⟩
  · have h1 := (sorted_perm (ents.toList.map (rg P k plainR))).map (fun p => strOf p.1)
    refine h1.trans ?_
    have e : (ents.toList.map (rg P k plainR)).map (fun p => strOf p.1) = l := by
      have e1 : (ents.toList.map (rg P k plainR)).map (fun p => strOf p.1) = (ents.toList.map (·.key)).map (fun v => match v with | .string s => s.data.toList | _ => []) := by
        rw [List.map_map, List.map_map]
        refine List.map_congr_left fun x hx => ?_
        obtain ⟨y, _, hy, hr⟩ := hread x hx
        simp [WideElems.rg, hr, strOf, hy]
      rw [e1, hkeys, strRow, List.map_map]
      simp [Function.comp_def]
    rw [e]
  · show List.length _ = _
    rw [(sorted_perm _).length_eq]
    simp [hlen]
theorem keyBytes_row : ∀ {es : List (Value × Value)} {l : List (List UInt8)}, keyBytes es = some l → es.map (·.1) = strRow l ∧ ∀ x ∈ l, x.length ≤ 1048576
  | [], l, h => by simp only [keyBytes, Option.some.injEq] at h; subst h; exact ⟨rfl, fun x hx => by cases hx⟩
  | (v, u) :: es, l, h => by
    unfold keyBytes at h
    split at h
    · rename_i e; cases e
    · rename_i s y es' e
      cases e
      split at h
      · rename_i hs
        cases hr : keyBytes es with
        | none => rw [hr] at h; cases h
        | some l' =>
          rw [hr] at h
          simp only [Option.some.injEq] at h
          subst h
          obtain ⟨h1, h2⟩ := keyBytes_row hr
          refine ⟨by simp [strRow, h1], fun x hx => ?_⟩
          rcases List.mem_cons.1 hx with rfl | hx
          · simpa [isSmall] using hs
          · exact h2 x hx
      · cases h
    · cases h
theorem VRs.strRow_eq {ρ : Ren} : ∀ {l : List (List UInt8)} {b : List Value}, VRs ρ (strRow l) b → b = strRow l
  | [], b, h => h.inv_nil
  | x :: l, b, h => by
    obtain ⟨y, b', rfl, hy, hb⟩ := VRs.inv_cons (x := .string ⟨⟨x⟩⟩) (a := strRow l) h
    rw [hy.inv_string, hb.strRow_eq]; rfl
theorem VRs.intRow_eq {ρ : Ren} : ∀ {l : List Int} {b : List Value}, VRs ρ (intRow l) b → b = intRow l
  | [], b, h => h.inv_nil
  | x :: l, b, h => by
    obtain ⟨y, b', rfl, hy, hb⟩ := VRs.inv_cons (x := .int .i64 x) (a := intRow l) h
    rw [hy.inv_int, hb.intRow_eq]; rfl
theorem intsOf_row : ∀ {vs : List Value} {l : List Int}, intsOf vs = some l → vs = intRow l
  | [], l, h => by simp only [intsOf, Option.some.injEq] at h; subst h; rfl
  | v :: vs, l, h => by
    unfold intsOf at h
    split at h
    · rename_i e; cases e
    · rename_i e
      cases e
      cases hr : intsOf vs with
      | none => rw [hr] at h; cases h
      | some l' => rw [hr] at h; cases h; rw [intsOf_row hr]; rfl
    · cases h
/-- What the box of maps.Keys' iterator comes to. -/
theorem keysIn_ok {P : Program} {k : TypeId} (hk : P.underlying k = some .string) {B : Nat} {ρ : Ren} {σ : St} {w : World} (hS : Sim B ρ σ w) {v v' : Value} {l : List (List UInt8)} (h : keysIn σ v = some l) (hv : VR ρ v v') :
    l.length ≤ 1048576 ∧ ((v' = .map none ∧ l = []) ∨ ∃ b n, ∃ D : DataW Unit, v' = .map (some b) ∧ w.ownsMap P k plainR b n D ∧ (strKeys D).Perm l ∧ Maps.size D = l.length) := by
  unfold keysIn at h
  split at h
  · cases h
    refine ⟨by simp, .inl ⟨?_, rfl⟩⟩
    cases hv; rfl
  · rename_i r
    split at h
    · rename_i es ch sh tg hg
      split at h
      · rename_i hsm
        obtain ⟨h1, h2⟩ := keyBytes_row h
        have hlen : es.length = l.length := by have := congrArg List.length h1; simpa [strRow] using this
        have hl : l.length ≤ 1048576 := by rw [← hlen]; simpa [isSmall] using hsm
        refine ⟨hl, .inr ?_⟩
        obtain ⟨_, p, hp, hz, ents, clock, hb, hst, hks, _⟩ := hS.live r _ hg
        rw [h1] at hks
        obtain ⟨D, d1, d2, d3⟩ := own_keys hk hb hst hks.strRow_eq hl h2
        cases hv with
        | map hr =>
          rw [hp] at hr; cases hr
          exact ⟨_, _, D, rfl, d1, d2, d3⟩
      · cases h
    · cases h
  · cases h
end
end Go.AM
