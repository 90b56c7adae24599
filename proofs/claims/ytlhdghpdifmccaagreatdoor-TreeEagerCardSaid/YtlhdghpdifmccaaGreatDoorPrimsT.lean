import Derived.Test.YtlhdghpdifmccaaGreatDoorRunT
import Derived.Test.YtlhdghpdifmccaaGreatDoorLay
import Derived.Test.YtlhdghpdifmccaaGreatDoorValsB
set_option linter.all false
namespace Go.AM
open Go.Proofs Go.RowKit Go.Maps Go.Sort Go.Shelf
theorem sortsS (m : Nat) : AnyZ.SortsIn Tryz.prog Tryz.sortedS_ren Fence.wide m :=
  ⟨fun blk off cap ss W hH hblk hsz => callsIn_wide.2 (AnyM.slices_Sort_string Tryz.sortS blk off cap ss W hH hblk hsz),
   fun p cap W => callsIn_wide.2 (AnyM.slices_Sort_string_none Tryz.sortS p cap W)⟩
theorem sortsI (m : Nat) : AnyZI.SortsIn Tryz.prog Tryz.sortedI_ren Fence.wide m :=
  ⟨fun blk off cap ss W hH hblk hsz => callsIn_wide.2 (AnyM.slices_Sort_int Tryz.sortI blk off cap ss W hH hblk hsz),
   fun p cap W => callsIn_wide.2 (AnyM.slices_Sort_int_none Tryz.sortI p cap W)⟩
theorem okey : Tryz.prog.underlying 9 = some .string := by kernel_rfl
/-- maps.Keys' iterators: the keys come, in some order. -/
theorem gives {n : Nat} (hn : 1 ≤ n) {g : Nat} (hg : g ∈ strIters) {w : World} {b o : Nat} {v' : Value} (hb : b < w.heap.size) (hc : w.cell? ⟨b, o, none⟩ = some v') {l : List (List UInt8)}
    (h : (v' = .map none ∧ l = []) ∨ ∃ b n, ∃ D : DataW Unit, v' = .map (some b) ∧ w.ownsMap Tryz.prog 9 plainR b n D ∧ (strKeys D).Perm l ∧ Maps.size D = l.length) :
    SeqGives Fence.wide n Tryz.prog g #[.pointer (some ⟨b, o, none⟩)] encStr (fun ss => ss.Perm l) l.length w ∧ (∀ args w, (callFunc g args).run Tryz.prog w = .ok (.enter g args) w) := by
  have weak : ∀ {N : Nat} {S : List (List UInt8) → Prop}, SeqGives Fence.wide n Tryz.prog g #[.pointer (some ⟨b, o, none⟩)] encStr S N w → N = l.length → (∀ ss, S ss → ss.Perm l) → SeqGives Fence.wide n Tryz.prog g #[.pointer (some ⟨b, o, none⟩)] encStr (fun ss => ss.Perm l) l.length w := by
    intro N S hs hN hS
    subst hN
    intro l' J W hW hJ hY h0
    exact (hs l' J W hW hJ hY h0).mono fun e W' ⟨hv, xs, h1, h2⟩ => ⟨hv, xs, hS xs h1, h2⟩
  simp only [strIters, List.mem_cons, List.not_mem_nil, or_false] at hg
  rcases hg with rfl | rfl | rfl
  · refine ⟨?_, enters_of Tryz.func127 (by kernel_rfl) rfl⟩
    rcases h with ⟨rfl, rfl⟩ | ⟨bm, nm, D, rfl, hown, hp, hs⟩
    · exact weak (KeysO.keys_gives_nil (ρ := Tryz.keysA_ren) { Tryz.keysA with } Fence.wide _ trivial rfl b o w hb hc) rfl (fun ss h => by rw [h])
    · exact weak (KeysO.keys_gives (ρ := Tryz.keysA_ren) { Tryz.keysA with } Fence.wide _ trivial rfl hn b o bm nm D w hb hc hown) hs (fun ss h => h.trans hp)
  · refine ⟨?_, enters_of Tryz.func128 (by kernel_rfl) rfl⟩
    rcases h with ⟨rfl, rfl⟩ | ⟨bm, nm, D, rfl, hown, hp, hs⟩
    · exact weak (KeysO.keys_gives_nil (ρ := Tryz.keysB_ren) { Tryz.keysB with } Fence.wide _ trivial rfl b o w hb hc) rfl (fun ss h => by rw [h])
    · exact weak (KeysO.keys_gives (ρ := Tryz.keysB_ren) { Tryz.keysB with } Fence.wide _ trivial rfl hn b o bm nm D w hb hc hown) hs (fun ss h => h.trans hp)
  · refine ⟨?_, enters_of Tryz.func200 (by kernel_rfl) rfl⟩
    rcases h with ⟨rfl, rfl⟩ | ⟨bm, nm, D, rfl, hown, hp, hs⟩
    · exact weak (KeysO.keys_gives_nil (ρ := Tryz.keysC_ren) { Tryz.keysC with } Fence.wide _ trivial rfl b o w hb hc) rfl (fun ss h => by rw [h])
    · exact weak (KeysO.keys_gives (ρ := Tryz.keysC_ren) { Tryz.keysC with } Fence.wide _ trivial rfl hn b o bm nm D w hb hc hown) hs (fun ss h => h.trans hp)
theorem one_arg {ρ : Ren} {f : Value} {args' : Array Value} (h : VRs ρ [f] args'.toList) : ∃ f', args' = #[f'] ∧ VR ρ f f' := by
  obtain ⟨f', l, e1, hf, hl⟩ := h.inv_cons
  obtain rfl := hl.inv_nil
  exact ⟨f', by cases args'; simp at e1; simp [e1], hf⟩
theorem strRow_enc (l : List (List UInt8)) : l.map encStr = strRow l := rfl
theorem intRow_enc (l : List Int) : l.map encZ = intRow l := rfl
theorem sortB_length (l : List (List UInt8)) : (sortB l).length = l.length := (sortB_perm l).length_eq
theorem sortI_length (l : List Int) : (sortI l).length = l.length := (sortI_perm l).length_eq
theorem find_sortedS {B : Nat} {σ σ' : St} {f v : Value} (h : sortedKeys strIters σ f = some (v, σ')) {ρ : Ren} {w : World} {args' : Array Value} (hS : Sim B ρ σ w) (hB : B ≤ w.heap.size) (hv : VRs ρ [f] args'.toList) :
    Calls Tryz.prog 74 args' w (CPost B ρ σ w (.ret v σ')) := by
  obtain ⟨f', rfl, hf⟩ := one_arg hv
  unfold sortedKeys at h
  cases hb : boxOf strIters σ f with
  | none => rw [hb] at h; cases h
  | some u =>
    rw [hb] at h
    dsimp only at h
    cases hk : keysIn σ u with
    | none => rw [hk] at h; cases h
    | some l =>
      rw [hk] at h
      simp only [Option.some.injEq] at h
      obtain ⟨g, b, o, u', hg, rfl, hcell, hu, hlt⟩ := box_ok hS hb hf
      obtain ⟨hl, hd⟩ := keysIn_ok okey hS hk hu
      obtain ⟨hgive, hent⟩ := gives (n := 2) (by omega) hg hlt hcell hd
      have cS := AnyZ.sorted_in Tryz.sortedS Fence.wide 5 trivial trivial trivial trivial rfl (by omega) (sortsS _) (enters_of Tryz.func126 (by kernel_rfl) rfl) g #[.pointer (some ⟨b, o, none⟩)] trivial hent _ _ (by unfold maxLen; omega) (by omega) w hgive
      refine (callsIn_wide.1 cS).mono ?_
      rintro e w' ⟨v', ss, rfl, hp, hrow, hnil, hbel⟩
      rw [sortB_eq hp, strRow_enc] at hrow
      rw [show v = (madeOf σ (strRow (sortB l))).1 by rw [h], show σ' = (madeOf σ (strRow (sortB l))).2 by rw [h]]
      refine made_row hS hB hbel hrow (fun e => hnil.2 ?_) (fun ρ' => strRow_flat _ ρ') ?_
      · have h1 := congrArg List.length e
        simp only [strRow, List.length_map, sortB_length, List.length_nil] at h1
        exact List.eq_nil_of_length_eq_zero (hp.length_eq.trans h1)
      · simp [isSmall, strRow, sortB_length, hl]
theorem find_sortedI {B : Nat} {σ σ' : St} {f v : Value} (h : sortedInts [122] σ f = some (v, σ')) {ρ : Ren} {w : World} {args' : Array Value} (hS : Sim B ρ σ w) (hB : B ≤ w.heap.size) (hv : VRs ρ [f] args'.toList) :
    Calls Tryz.prog 71 args' w (CPost B ρ σ w (.ret v σ')) := by
  obtain ⟨f', rfl, hf⟩ := one_arg hv
  unfold sortedInts at h
  cases hb : boxOf [122] σ f with
  | none => rw [hb] at h; cases h
  | some u =>
    rw [hb] at h
    dsimp only at h
    cases hk : intsIn σ u with
    | none => rw [hk] at h; cases h
    | some zs =>
      rw [hk] at h
      simp only [Option.some.injEq] at h
      obtain ⟨g, b, o, u', hg, rfl, hcell, hu, hlt⟩ := box_ok hS hb hf
      obtain rfl : g = 122 := by simpa using hg
      have hI : zs.length ≤ 1048576 ∧ Vals.Ints w.heap.size w u' zs := by
        unfold intsIn at hk
        split at hk
        · split at hk
          · rename_i hl0
            cases hk
            rw [Nat.beq_eq] at hl0
            refine ⟨by simp, .inl ?_⟩
            cases hu with
            | nilSlice _ _ => exact ⟨none, 0, rfl, rfl⟩
          · cases hk
        · rename_i bb oo nn kk
          split at hk
          · rename_i hsm
            cases hcs : σ.cells bb oo nn with
            | none => rw [hcs] at hk; cases hk
            | some cs =>
              rw [hcs] at hk
              have hrow := intsOf_row hk
              cases hu with
              | noSlice hk0 hr =>
                rename_i a
                have : cs.length = 0 := by
                  obtain ⟨p, hp⟩ := Option.isSome_iff_exists.1 hr
                  obtain ⟨_, _, _, h3, _⟩ := cells_get hS.local hcs hp
                  exact h3
                obtain rfl := List.eq_nil_of_length_eq_zero this
                cases zs with
                | nil => exact ⟨by simp, .inl ⟨_, _, rfl, rfl⟩⟩
                | cons z zs => cases hrow
              | slice hr hl hc hz hm =>
                rename_i c p
                obtain ⟨l', h1, h2, h3, h4⟩ := cells_get hS.local hcs hr
                subst hrow
                have h1' := h1.intRow_eq
                subst h1'
                have hlen : zs.length = nn := by simpa [intRow] using h3
                refine ⟨by rw [hlen]; simpa [isSmall] using hsm, .inr ⟨p.b, p.s + oo, c, by rw [hlen], (hS.dom bb p hr).2, fun j hj => ?_⟩⟩
                exact h4 j _ (by simp [intRow, List.getElem?_map, List.getElem?_eq_getElem hj])
          · cases hk
        · cases hk
      obtain ⟨hl, hI⟩ := hI
      have hgive := Vals.gives Fence.wide 2 trivial rfl (by omega) b o u' zs (by omega) w hlt hcell hI
      have cS := IntsB.sorted_in Tryz.sortedI Fence.wide 5 trivial trivial trivial trivial rfl (by omega) (sortsI _) (enters_of Tryz.func121 (by kernel_rfl) rfl) 122 #[.pointer (some ⟨b, o, none⟩)] trivial (enters_of Tryz.func122 (by kernel_rfl) rfl) _ _ (by unfold maxLen; omega) (by omega) w hgive
      refine (callsIn_wide.1 cS).mono ?_
      rintro e w' ⟨v', ss, rfl, rfl, hrow, hnil, hbel⟩
      rw [sortI_eq (List.Perm.refl _), intRow_enc] at hrow
      rw [show v = (madeOf σ (intRow (sortI ss))).1 by rw [h], show σ' = (madeOf σ (intRow (sortI ss))).2 by rw [h]]
      refine made_row hS hB hbel hrow (fun e => hnil.2 ?_) (fun ρ' => intRow_flat _ ρ') ?_
      · have h1 := congrArg List.length e
        simp only [intRow, List.length_map, sortI_length, List.length_nil] at h1
        exact List.eq_nil_of_length_eq_zero h1
      · simp [isSmall, intRow, sortI_length, hl]
theorem find_collect {B : Nat} {σ σ' : St} {f v : Value} (h : oneKey strIters σ f = some (v, σ')) {ρ : Ren} {w : World} {args' : Array Value} (hS : Sim B ρ σ w) (hB : B ≤ w.heap.size) (hv : VRs ρ [f] args'.toList) :
    Calls Tryz.prog 125 args' w (CPost B ρ σ w (.ret v σ')) := by
  obtain ⟨f', rfl, hf⟩ := one_arg hv
  unfold oneKey at h
  cases hb : boxOf strIters σ f with
  | none => rw [hb] at h; cases h
  | some u =>
    rw [hb] at h
    dsimp only at h
    cases hk : keysIn σ u with
    | none => rw [hk] at h; cases h
    | some l =>
      rw [hk] at h
      have hone : madeOf σ (strRow l) = (v, σ') ∧ l.length ≤ 1 := by
        rcases l with _ | ⟨x, _ | ⟨y, l⟩⟩
        · exact ⟨Option.some.inj h, by simp⟩
        · exact ⟨Option.some.inj h, by simp⟩
        · cases h
      obtain ⟨g, b, o, u', hg, rfl, hcell, hu, hlt⟩ := box_ok hS hb hf
      obtain ⟨hl, hd⟩ := keysIn_ok okey hS hk hu
      obtain ⟨hgive, hent⟩ := gives (n := 3) (by omega) hg hlt hcell hd
      have cS := AnyZ.collect_in (ρ := Tryz.sortedS_ren) { Tryz.sortedS with } Fence.wide 5 trivial trivial rfl (by omega) g #[.pointer (some ⟨b, o, none⟩)] trivial hent _ _ (by unfold maxLen; omega) (by omega) w hgive
      refine (callsIn_wide.1 cS).mono ?_
      rintro e w' ⟨v', ss, rfl, hp, hrow, hnil, hbel⟩
      have hss : ss = l := by
        rcases l with _ | ⟨x, _ | ⟨y, l⟩⟩
        · exact hp.eq_nil
        · exact List.perm_singleton.1 hp
        · exact absurd hone.2 (by simp)
      subst hss
      rw [strRow_enc] at hrow
      have h1 := hone.1
      have e1 : v = (madeOf σ (strRow ss)).1 := by rw [h1]
      have e2 : σ' = (madeOf σ (strRow ss)).2 := by rw [h1]
      rw [e1, e2]
      refine made_row hS hB hbel hrow (fun e => hnil.2 ?_) (fun ρ' => strRow_flat _ ρ') ?_
      · have h1 := congrArg List.length e
        simp only [strRow, List.length_map, List.length_nil] at h1
        exact List.eq_nil_of_length_eq_zero h1
      · simp [isSmall, strRow, hl]
theorem noGo : (Tryz.prog.funcs.toList.all fun fn => !(fn.body.isSome && fn.name == "runtime.NumGoroutine")) = true := by kernel_rfl
theorem prims (B : Nat) : PrimsOK Tryz.prog B X where
  mixed := Tryz.keysA.mixed
  named := fun f fn hf hb => by
    have h := List.all_eq_true.1 noGo fn (Array.mem_toList_iff.2 (Array.mem_of_getElem? hf))
    rw [hb] at h
    simpa using h
  ext := fun f args v h ρ w args' hv => by
    simp only [X, XExt] at h
    split at h
    · rename_i hf
      have hf' := Nat.eq_of_beq_eq_true hf
      split at h
      · rename_i s c
        split at h
        · rename_i hc
          cases h
          obtain ⟨s', l1, e1, hs1, hv1⟩ := hv.inv_cons
          obtain ⟨c', l2, rfl, hc1, hv2⟩ := hv1.inv_cons
          obtain rfl := hv2.inv_nil
          have es := hs1.inv_string; subst es
          have ec := hc1.inv_int; subst ec
          obtain rfl : args' = #[.string s, .int .u8 (Int.ofNat c)] := by cases args'; simp at e1; simp [e1]
          subst hf'
          refine ⟨_, ?_, .int _ _⟩
          rw [run_callFunc_extern Tryz.func232 (by kernel_rfl) (by kernel_rfl) (by kernel_rfl) (e := Extern.BytealgCount.count) (by kernel_rfl), run_count s (Nat.le_of_ble_eq_true hc)]
          rfl
        · cases h
      · cases h
    · split at h
      · rename_i hf
        have hf' := Nat.eq_of_beq_eq_true hf
        split at h
        · rename_i s c
          split at h
          · rename_i hc
            cases h
            obtain ⟨s', l1, e1, hs1, hv1⟩ := hv.inv_cons
            obtain ⟨c', l2, rfl, hc1, hv2⟩ := hv1.inv_cons
            obtain rfl := hv2.inv_nil
            have es := hs1.inv_string; subst es
            have ec := hc1.inv_int; subst ec
            obtain rfl : args' = #[.string s, .int .u8 (Int.ofNat c)] := by cases args'; simp at e1; simp [e1]
            subst hf'
            refine ⟨_, ?_, .int _ _⟩
            rw [run_callFunc_extern Tryz.func243 (by kernel_rfl) (by kernel_rfl) (by kernel_rfl) (e := Extern.BytealgIndexByte.indexByte) (by kernel_rfl), run_index s (Nat.le_of_ble_eq_true hc)]
            rfl
          · cases h
        · cases h
      · cases h
  find := fun f args σ v σ' h ρ w args' hS hB hv => by
    simp only [X, XFind] at h
    split at h
    · rename_i hf
      have hf' := Nat.eq_of_beq_eq_true hf
      subst hf'
      split at h
      · simp only [Option.some.injEq] at h
        exact ⟨enters_of Tryz.func74 (by kernel_rfl) rfl _ _, find_sortedS h hS hB hv⟩
      · cases h
    · split at h
      · rename_i hf
        have hf' := Nat.eq_of_beq_eq_true hf
        subst hf'
        split at h
        · simp only [Option.some.injEq] at h
          exact ⟨enters_of Tryz.func71 (by kernel_rfl) rfl _ _, find_sortedI h hS hB hv⟩
        · cases h
      · split at h
        · rename_i hf
          have hf' := Nat.eq_of_beq_eq_true hf
          subst hf'
          split at h
          · simp only [Option.some.injEq] at h
            exact ⟨enters_of Tryz.func125 (by kernel_rfl) rfl _ _, find_collect h hS hB hv⟩
          · cases h
        · split at h
          · rename_i hf
            have hf' := Nat.eq_of_beq_eq_true hf
            subst hf'
            exact ⟨enters_of Tryz.func148 (by kernel_rfl) rfl _ _, insert_ok Tryz.ins h hS hB hv⟩
          · cases h
  run := fun call hC args σ r h ρ w args' hS hB hv => ⟨enters_of Tryz.func194 (by kernel_rfl) rfl _ _, run_ok B call hC args σ r h ρ w args' hS hB hv⟩
end Go.AM
