/- Walk: topic.Match. -/
import Derived.Test.YtjeafniglnnkhaaGreatDoorHA8
namespace Go.Proofs.YtjeafniglnnkhaaGreatDoor
open Go.RowKit

theorem topic_ne {t : ByteArray} (h : topicS t = 0) : t.toList ≠ [] := by
  intro h0
  simp [topicS, textS, h0] at h

theorem first_byte {t : ByteArray} (h : t.toList ≠ []) : ∃ x, t.toList.head? = some x ∧ ∀ (W : World), (Instr.index 9 (.string t) (.int .i64 0)).run Tryz.prog W = .ok (.int .u8 x.toNat) W := by
  have hs : 0 < t.size := by
    rcases Nat.eq_zero_or_pos t.size with h0 | h0
    · exfalso
      apply h
      rw [Lib.toList_data]
      apply List.eq_nil_of_length_eq_zero
      simpa using h0
    · exact h0
  refine ⟨t[0], ?_, fun W => ?_⟩
  · rw [Lib.toList_data]
    have h' : 0 < t.data.toList.length := by simpa using hs
    rw [List.head?_eq_getElem?, List.getElem?_eq_getElem h']
    rfl
  · rw [run_index_string _ _ _ _ _ Tryz.underlying9, dif_pos (by omega)]
    rfl

theorem sharedV_isSome (o : Option (ByteArray × ByteArray)) : ∃ p q, sharedV o = .tuple #[.string p, .string q, .bool o.isSome] := by
  cases o with
  | none => exact ⟨_, _, rfl⟩
  | some x => exact ⟨x.1, x.2, rfl⟩

theorem levelsS_cons (s : ByteArray) : ∃ x r, levelsS s = x :: r := by
  cases hl : levelsS s with
  | nil => exact absurd hl (levelsFrom_ne s _ _ _)
  | cons y r => exact ⟨y, r, rfl⟩

set_option maxRecDepth 100000 in
set_option maxHeartbeats 4000000 in
theorem match_any (f t : ByteArray) (w : World) (hf : f.size ≤ 1000000) (ht : t.size ≤ 1000000) :
    Calls Tryz.prog 9 #[.string f, .string t] w fun e w' => e = .returned (.bool (matchS f t)) ∧ Below w.heap.size w w' := by
  have hlf := levelsS_len f
  have hlt := levelsS_len t
  obtain ⟨p, q, hpq⟩ := sharedV_isSome (sharedS f)
  have HC := fun W => Lib.hid (show Calls Tryz.prog 8 #[.string f] W fun e w' => e = .returned (.tuple #[.string p, .string q, .bool (sharedS f).isSome]) ∧ Below W.heap.size W w' from hpq ▸ shared_any f W hf)
  clear hpq
  by_cases h1 : (sharedS f).isSome = true
  · have H := Lib.hid (show matchS f t = false by simp [matchS, h1])
    rw [h1] at HC
    clear h1
    go_enter Tryz.func9, Tryz.ntmps9
    go_wp2_with fail
    refine (HC _).out.mono ?_
    rintro e w1 ⟨rfl, hb1⟩
    go_wp2
    go_ret
    exact ⟨H.out.symm ▸ rfl, hb1⟩
  · have h1' : (sharedS f).isSome = false := by simpa using h1
    rw [h1'] at HC
    by_cases h2 : filterS f = 0
    · have e2 : (filterS f != 0) = false := by simp [h2]
      by_cases h3 : topicS t = 0
      · have e3 : (topicS t != 0) = false := by simp [h3]
        obtain ⟨x, hx, hidx⟩ := first_byte (topic_ne h3)
        obtain ⟨l0, lr, hL⟩ := levelsS_cons f
        have hdef := show matchS f t = if x = 36 ∧ (l0.toList = [43] ∨ l0.toList = [35]) then false else goesS (levelsS f) (levelsS t) by
          simp [matchS, h1, h2, h3, hx, hL]
        have HL := Lib.hid hL
        have HCL := fun W => Lib.hid (show Calls Tryz.prog 35 #[.string f] W fun e w' => ∃ v, e = .returned v ∧ IsStrs w' w'.heap.size v (l0 :: lr) ∧ Below W.heap.size W w' from (levels_any f W hf).mono fun e w' ⟨v, he, ho, hb⟩ => ⟨v, he, by rw [hL] at ho; exact IsStrs.of_owns ho, hb⟩)
        have HCT := fun W => Lib.hid (show Calls Tryz.prog 35 #[.string t] W fun e w' => ∃ v, e = .returned v ∧ IsStrs w' w'.heap.size v (levelsS t) ∧ Below W.heap.size W w' from (levels_any t W ht).mono fun e w' ⟨v, he, ho, hb⟩ => ⟨v, he, IsStrs.of_owns ho, hb⟩)
        rw [hL] at hlf
        clear hL hx h1 h1' h2 h3
        by_cases h4 : x = 36
        · have e4 : ((x.toNat : Int) == 36) = true := by subst h4; rfl
          by_cases h5 : l0.toList = [43]
          · have e5 : (l0.toList == [43]) = true := by simp [h5]
            have H := Lib.hid (show matchS f t = false by rw [hdef, if_pos ⟨h4, .inl h5⟩])
            clear h4 h5 hdef
            go_enter Tryz.func9, Tryz.ntmps9
            go_wp2_with fail
            refine (HC _).out.mono ?_
            rintro e w1 ⟨rfl, hb1⟩
            go_wp2_with fail
            refine (filter_any f w1 hf).mono ?_
            rintro e w2 ⟨rfl, hb2⟩
            have hb12 := hb1.trans (hb2.mono hb1.size)
            go_wp2_with fail
            refine (topic_any t w2 ht).mono ?_
            rintro e w3 ⟨rfl, hb3⟩
            have hb13 := hb12.trans (hb3.mono hb12.size)
            go_wp2_with fail
            refine (HCL _).out.mono ?_
            rintro e w4 ⟨v4, rfl, hstr, hb4⟩
            have hb14 := hb13.trans (hb4.mono hb13.size)
            have HS := Lib.hid hstr
            obtain ⟨A, c, rfl, hc, hA⟩ := hstr
            obtain ⟨b, o, rfl, hB, hcell⟩ := hA (by simp)
            have g0 : w4.cell? ⟨b, o, none⟩ = some (.string l0) := hcell 0 (by simp)
            clear hcell hA
            go_wp2
            go_ret
            exact ⟨H.out.symm ▸ rfl, hb14⟩
          · have e5 : (l0.toList == [43]) = false := by simp [h5]
            by_cases h6 : l0.toList = [35]
            · have e6 : (l0.toList == [35]) = true := by simp [h6]
              have H := Lib.hid (show matchS f t = false by rw [hdef, if_pos ⟨h4, .inr h6⟩])
              clear h4 h5 h6 hdef
              go_enter Tryz.func9, Tryz.ntmps9
              go_wp2_with fail
              refine (HC _).out.mono ?_
              rintro e w1 ⟨rfl, hb1⟩
              go_wp2_with fail
              refine (filter_any f w1 hf).mono ?_
              rintro e w2 ⟨rfl, hb2⟩
              have hb12 := hb1.trans (hb2.mono hb1.size)
              go_wp2_with fail
              refine (topic_any t w2 ht).mono ?_
              rintro e w3 ⟨rfl, hb3⟩
              have hb13 := hb12.trans (hb3.mono hb12.size)
              go_wp2_with fail
              refine (HCL _).out.mono ?_
              rintro e w4 ⟨v4, rfl, hstr, hb4⟩
              have hb14 := hb13.trans (hb4.mono hb13.size)
              have HS := Lib.hid hstr
              obtain ⟨A, c, rfl, hc, hA⟩ := hstr
              obtain ⟨b, o, rfl, hB, hcell⟩ := hA (by simp)
              have g0 : w4.cell? ⟨b, o, none⟩ = some (.string l0) := hcell 0 (by simp)
              clear hcell hA
              go_wp2
              go_ret
              exact ⟨H.out.symm ▸ rfl, hb14⟩
            · have e6 : (l0.toList == [35]) = false := by simp [h6]
              have H := Lib.hid (show matchS f t = goesS (l0 :: lr) (levelsS t) by rw [hdef, if_neg (fun h => h.2.elim h5 h6), HL.out])
              clear h4 h5 h6 hdef
              go_enter Tryz.func9, Tryz.ntmps9
              go_wp2_with fail
              refine (HC _).out.mono ?_
              rintro e w1 ⟨rfl, hb1⟩
              go_wp2_with fail
              refine (filter_any f w1 hf).mono ?_
              rintro e w2 ⟨rfl, hb2⟩
              have hb12 := hb1.trans (hb2.mono hb1.size)
              go_wp2_with fail
              refine (topic_any t w2 ht).mono ?_
              rintro e w3 ⟨rfl, hb3⟩
              have hb13 := hb12.trans (hb3.mono hb12.size)
              go_wp2_with fail
              refine (HCL _).out.mono ?_
              rintro e w4 ⟨v4, rfl, hstr, hb4⟩
              have hb14 := hb13.trans (hb4.mono hb13.size)
              have HS := Lib.hid hstr
              obtain ⟨A, c, rfl, hc, hA⟩ := hstr
              obtain ⟨b, o, rfl, hB, hcell⟩ := hA (by simp)
              have g0 : w4.cell? ⟨b, o, none⟩ = some (.string l0) := hcell 0 (by simp)
              clear hcell hA
              go_wp2_with fail
              refine (HCT _).out.mono ?_
              rintro e w5 ⟨v5, rfl, hstr5, hb5⟩
              have hb15 := hb14.trans (hb5.mono hb14.size)
              go_wp2_with fail
              refine (goes_any (l0 :: lr) (levelsS t) _ _ w5 _ _ (HS.out.below hb5) hstr5 (by omega) (by omega)).mono ?_
              rintro e w6 ⟨rfl, n, rfl⟩
              go_wp2
              go_ret
              exact ⟨H.out.symm ▸ rfl, below_drewN hb15 n⟩
        · have e4 : ((x.toNat : Int) == 36) = false := by
            rw [beq_eq_false_iff_ne]
            intro h
            apply h4
            apply UInt8.toNat_inj.1
            have : x.toNat = 36 := by omega
            rw [this]; rfl
          have H := Lib.hid (show matchS f t = goesS (l0 :: lr) (levelsS t) by rw [hdef, if_neg (fun h => h4 h.1), HL.out])
          clear h4 hdef
          go_enter Tryz.func9, Tryz.ntmps9
          go_wp2_with fail
          refine (HC _).out.mono ?_
          rintro e w1 ⟨rfl, hb1⟩
          go_wp2_with fail
          refine (filter_any f w1 hf).mono ?_
          rintro e w2 ⟨rfl, hb2⟩
          have hb12 := hb1.trans (hb2.mono hb1.size)
          go_wp2_with fail
          refine (topic_any t w2 ht).mono ?_
          rintro e w3 ⟨rfl, hb3⟩
          have hb13 := hb12.trans (hb3.mono hb12.size)
          go_wp2_with fail
          refine (HCL _).out.mono ?_
          rintro e w4 ⟨v4, rfl, hstr, hb4⟩
          have hb14 := hb13.trans (hb4.mono hb13.size)
          have HS := Lib.hid hstr
          obtain ⟨A, c, rfl, hc, hA⟩ := hstr
          obtain ⟨b, o, rfl, hB, hcell⟩ := hA (by simp)
          have g0 : w4.cell? ⟨b, o, none⟩ = some (.string l0) := hcell 0 (by simp)
          clear hcell hA
          go_wp2_with fail
          refine (HCT _).out.mono ?_
          rintro e w5 ⟨v5, rfl, hstr5, hb5⟩
          have hb15 := hb14.trans (hb5.mono hb14.size)
          go_wp2_with fail
          refine (goes_any (l0 :: lr) (levelsS t) _ _ w5 _ _ (HS.out.below hb5) hstr5 (by omega) (by omega)).mono ?_
          rintro e w6 ⟨rfl, n, rfl⟩
          go_wp2
          go_ret
          exact ⟨H.out.symm ▸ rfl, below_drewN hb15 n⟩
      · have e3 : (topicS t != 0) = true := by simp [h3]
        have H := Lib.hid (show matchS f t = false by simp [matchS, h3])
        clear h1 h1' h2 h3
        go_enter Tryz.func9, Tryz.ntmps9
        go_wp2_with fail
        refine (HC _).out.mono ?_
        rintro e w1 ⟨rfl, hb1⟩
        go_wp2_with fail
        refine (filter_any f w1 hf).mono ?_
        rintro e w2 ⟨rfl, hb2⟩
        have hb12 := hb1.trans (hb2.mono hb1.size)
        go_wp2_with fail
        refine (topic_any t w2 ht).mono ?_
        rintro e w3 ⟨rfl, hb3⟩
        have hb13 := hb12.trans (hb3.mono hb12.size)
        go_wp2
        go_ret
        exact ⟨H.out.symm ▸ rfl, hb13⟩
    · have e2 : (filterS f != 0) = true := by simp [h2]
      have H := Lib.hid (show matchS f t = false by simp [matchS, h2])
      clear h1 h1' h2
      go_enter Tryz.func9, Tryz.ntmps9
      go_wp2_with fail
      refine (HC _).out.mono ?_
      rintro e w1 ⟨rfl, hb1⟩
      go_wp2_with fail
      refine (filter_any f w1 hf).mono ?_
      rintro e w2 ⟨rfl, hb2⟩
      go_wp2
      go_ret
      exact ⟨H.out.symm ▸ rfl, hb1.trans (hb2.mono hb1.size)⟩
end Go.Proofs.YtjeafniglnnkhaaGreatDoor
