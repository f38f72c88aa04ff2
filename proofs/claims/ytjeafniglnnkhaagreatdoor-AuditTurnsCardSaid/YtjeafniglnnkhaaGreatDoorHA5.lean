/- Walks: topic.Check, topic.CheckFilter. -/
import Derived.Test.YtjeafniglnnkhaaGreatDoorHA4
namespace Go.Proofs.YtjeafniglnnkhaaGreatDoor
open Go.RowKit

set_option maxHeartbeats 400000 in
theorem topic_any (s : ByteArray) (w : World) (hs : s.size ≤ 1000000) :
    Calls Tryz.prog 36 #[.string s] w fun e w' => e = .returned (.int .i64 (topicS s)) ∧ Below w.heap.size w w' := by
  by_cases h0 : textS s = 0
  · have e0 : (textS s != 0) = false := by simp [h0]
    have HC := fun W => Lib.hid (containsAny_any s W hs)
    by_cases h1 : wildS s = true
    · have H := Lib.hid (show topicS s = 52 by simp [topicS, h0, h1])
      clear h0
      go_enter Tryz.func36, Tryz.ntmps36
      go_wp2_with fail
      refine (text_any s _).mono ?_
      rintro e w1 ⟨rfl, hb1⟩
      go_wp2_with fail
      refine (HC _).out.mono ?_
      rintro e w2 ⟨rfl, hb2⟩
      go_wp2
      go_ret
      exact ⟨by rw [H.out]; rfl, hb1.trans (hb2.mono hb1.size)⟩
    · have h1' : wildS s = false := by simpa using h1
      have H := Lib.hid (show topicS s = 0 by simp [topicS, h0, h1'])
      clear h0 h1
      go_enter Tryz.func36, Tryz.ntmps36
      go_wp2_with fail
      refine (text_any s _).mono ?_
      rintro e w1 ⟨rfl, hb1⟩
      go_wp2_with fail
      refine (HC _).out.mono ?_
      rintro e w2 ⟨rfl, hb2⟩
      go_wp2
      go_ret
      exact ⟨by rw [H.out]; rfl, hb1.trans (hb2.mono hb1.size)⟩
  · have e0 : (textS s != 0) = true := by simp [h0]
    have H := Lib.hid (show topicS s = textS s by simp [topicS, h0])
    clear h0
    go_enter Tryz.func36, Tryz.ntmps36
    go_wp2_with fail
    refine (text_any s _).mono ?_
    rintro e w1 ⟨rfl, hb1⟩
    go_wp2
    go_ret
    exact ⟨by rw [H.out]; rfl, hb1⟩

theorem lvBad_step (l : List ByteArray) (k : Nat) (h : k < l.length) : lvBad (l.drop k) = (scanFrom l[k] (decide (l.length ≤ k + 1)) l[k].size 0 || lvBad (l.drop (k + 1))) := by
  rw [List.drop_eq_getElem_cons h, lvBad]
  congr 2
  rw [Bool.eq_iff_iff]; simp
theorem lvBad_end (l : List ByteArray) (k : Nat) (h : ¬ k < l.length) : lvBad (l.drop k) = false := by
  rw [List.drop_of_length_le (by omega)]; rfl
theorem scan_skip {s : ByteArray} {last : Bool} {b pos : Nat} {x : Bool} (h : scanFrom s last (b + 1) pos = x) (hp : pos < s.size) (hs : ¬((Utf8.decode s pos).1 = 43 ∨ (Utf8.decode s pos).1 = 35)) : scanFrom s last b (pos + (Utf8.decode s pos).2) = x := by
  rw [scanFrom, if_pos hp, if_neg hs] at h
  exact h
theorem scan_hit {s : ByteArray} {last : Bool} {b pos : Nat} {x : Bool} (h : scanFrom s last (b + 1) pos = x) (hp : pos < s.size) (hs : (Utf8.decode s pos).1 = 43 ∨ (Utf8.decode s pos).1 = 35) : x = (decide (1 < s.size) || (decide ((Utf8.decode s pos).1 = 35) && !last)) := by
  rw [scanFrom, if_pos hp, if_pos hs] at h
  exact h.symm

set_option maxRecDepth 100000 in
set_option maxHeartbeats 1000000 in
theorem filter_any (s : ByteArray) (w : World) (hs : s.size ≤ 1000000) :
    Calls Tryz.prog 38 #[.string s] w fun e w' => e = .returned (.int .i64 (filterS s)) ∧ Below w.heap.size w w' := by
  by_cases h0 : textS s = 0
  · have e0 : (textS s != 0) = false := by simp [h0]
    have H := Lib.hid (show filterS s = (if lvBad (levelsS s) then 52 else 0) by simp [filterS, h0])
    have hlen := levelsS_len s
    clear h0
    go_enter Tryz.func38, Tryz.ntmps38
    go_wp2
    go_step3
    go_wp2_with fail
    refine (text_any s _).mono ?_
    rintro e w1 ⟨rfl, hb1⟩
    go_wp2_with fail
    refine (levels_any s _ hs).mono ?_
    rintro e w2 ⟨v2, rfl, hown2, hb2⟩
    obtain ⟨A, c, rfl, hc, hA⟩ := IsStrs.of_owns hown2
    have hbw : Below w.heap.size w w2 := hb1.trans (hb2.mono hb1.size)
    have hown := owns_mono hown2 (Nat.le_trans hb1.size (Nat.le_refl _))
    clear hown2 hb1 hb2
    go_wp2
    go_step3
    go_wp2
    go_loopw [18] (fun i wr => ∃ k : Nat, k ≤ (levelsS s).length ∧ i = .int .i64 k ∧ Below w2.heap.size w2 wr ∧ Hid (lvBad ((levelsS s).drop k) = lvBad (levelsS s))) (fun i _ => (levelsS s).length - (intOf i).toNat)
    case atStart => exact ⟨0, by omega, rfl, Below.refl _ _, rfl⟩
    case round =>
      obtain ⟨k, hk, rfl, hbr, HC⟩ := hrel
      by_cases hlt : k < (levelsS s).length
      · obtain ⟨bb, oo, rfl, hB, hcell⟩ := hA (by omega)
        have g0 := hcell k hlt
        have g1 : wr.cell? ⟨bb, oo + k, none⟩ = some (.string (levelsS s)[k]) := (hbr.cell (p := ⟨bb, oo + k, none⟩) hB).trans g0
        clear hcell g0 hA
        generalize hsk : (levelsS s)[k] = sk at *
        have HSK := Lib.hid hsk
        clear hsk
        have hst := lvBad_step (levelsS s) k hlt
        rw [HSK.out] at hst
        generalize hlast : decide ((levelsS s).length ≤ k + 1) = last at hst
        have HL := Lib.hid hlast
        have HST := Lib.hid hst
        clear hlast hst
        go_wp2
        obtain ⟨wo, rfl⟩ : ∃ wo : World, wo = wr := ⟨_, rfl⟩
        go_loopw [] (fun wr => ∃ (pos b : Nat), wr.heap[wo.heap.size]? = some (.stringIter sk pos) ∧ Below wo.heap.size wo wr ∧ Hid (scanFrom sk last b pos = scanFrom sk last sk.size 0) ∧ sk.size ≤ pos + b) (fun wr => sk.size - wr.iterPos wo.heap.size)
        case atStart => exact ⟨0, sk.size, World.iter_heap _ _ _, (Below.refl _ _).alloc (Nat.le_refl _) _, rfl, by omega⟩
        case round =>
          obtain ⟨pos, b, hit, hbi, HCI, hbb⟩ := hrel
          have hwi : wo.heap.size < wr.heap.size := (Array.getElem?_eq_some_iff.1 hit).1
          have HIP := Lib.hid (iter_pos hit)
          by_cases hp : pos < sk.size
          · obtain ⟨w1, hnx, hit1, hsz1, _, hg1⟩ := iter_next Tryz.prog wr wo.heap.size sk pos hit hp
            have hwd := width_pos sk pos hp
            have hb1 := hbi.grown hg1 hbi.size (fun k hk => by injection hk with hk; omega)
            clear hg1 hbi hit hsz1
            obtain ⟨b, rfl⟩ : ∃ b', b = b' + 1 := ⟨b - 1, by omega⟩
            by_cases hsg : (Utf8.decode sk pos).1 = 43 ∨ (Utf8.decode sk pos).1 = 35
            · have hv := scan_hit HCI.out hp hsg
              have hst := HST.out
              rw [hv, HC.out] at hst
              by_cases hsz : 1 < sk.size
              · have HT := Lib.hid (show lvBad (levelsS s) = true by rw [hst]; simp [hsz])
                have hsz' : decide ((1 : Int) < (sk.size : Int)) = true := by simp; omega
                clear hv hst
                rcases hsg with hc | hc
                · have e1 : (((Utf8.decode sk pos).1 : Int) != 43) = false := by simp [hc]
                  clear hc
                  go_wp2
                  (repeat (first | rw [Exit.noGoto_ret] | simp only [Exit.inBlock, Exit.then]))
                  go_ret
                  refine ⟨?_, hbw.trans ((hbr.trans (hb1.mono hbr.size)).mono hbw.size)⟩
                  rw [H.out, if_pos HT.out]; rfl
                · have e1 : (((Utf8.decode sk pos).1 : Int) != 43) = true := by simp [hc]
                  have e2 : (((Utf8.decode sk pos).1 : Int) != 35) = false := by simp [hc]
                  clear hc
                  go_wp2
                  (repeat (first | rw [Exit.noGoto_ret] | simp only [Exit.inBlock, Exit.then]))
                  go_ret
                  refine ⟨?_, hbw.trans ((hbr.trans (hb1.mono hbr.size)).mono hbw.size)⟩
                  rw [H.out, if_pos HT.out]; rfl
              · have hsz' : decide ((1 : Int) < (sk.size : Int)) = false := by simp; omega
                rcases hsg with hc | hc
                · have HN : Hid (lvBad ((levelsS s).drop (k + 1)) = lvBad (levelsS s)) := by
                    have : lvBad (levelsS s) = lvBad ((levelsS s).drop (k + 1)) := by rw [hst]; simp [hsz, hc]
                    exact this.symm
                  have e1 : (((Utf8.decode sk pos).1 : Int) != 43) = false := by simp [hc]
                  have e3 : (((Utf8.decode sk pos).1 : Int) == 35) = false := by simp [hc]
                  clear hc hv hst
                  go_wp2
                  go_roundw
                  case rel => exact ⟨k + 1, by omega, by go_num, hbr.trans (hb1.mono hbr.size), HN⟩
                  case measure => simp [intOf]; omega
                · have e1 : (((Utf8.decode sk pos).1 : Int) != 43) = true := by simp [hc]
                  have e2 : (((Utf8.decode sk pos).1 : Int) != 35) = false := by simp [hc]
                  have e3 : (((Utf8.decode sk pos).1 : Int) == 35) = true := by simp [hc]
                  by_cases hla : (levelsS s).length ≤ k + 1
                  · have HN : Hid (lvBad ((levelsS s).drop (k + 1)) = lvBad (levelsS s)) := by
                      have : lvBad (levelsS s) = lvBad ((levelsS s).drop (k + 1)) := by rw [hst, ← HL.out]; simp [hsz, hla]
                      exact this.symm
                    clear hc hv hst
                    go_wp2
                    go_roundw
                    case rel => exact ⟨k + 1, by omega, by go_num, hbr.trans (hb1.mono hbr.size), HN⟩
                    case measure => simp [intOf]; omega
                  · have HT := Lib.hid (show lvBad (levelsS s) = true by rw [hst, ← HL.out]; simp [hc, hla])
                    clear hc hv hst
                    go_wp2
                    (repeat (first | rw [Exit.noGoto_ret] | simp only [Exit.inBlock, Exit.then]))
                    go_ret
                    refine ⟨?_, hbw.trans ((hbr.trans (hb1.mono hbr.size)).mono hbw.size)⟩
                    rw [H.out, if_pos HT.out]; rfl
            · have e1 : (((Utf8.decode sk pos).1 : Int) != 43) = true := by rw [bne_iff_ne]; omega
              have e2 : (((Utf8.decode sk pos).1 : Int) != 35) = true := by rw [bne_iff_ne]; omega
              have HS := Lib.hid hsg
              clear hsg
              go_wp2
              go_roundw
              case rel => exact ⟨_, b, hit1, hb1, scan_skip HCI.out hp HS.out, by omega⟩
              case measure => rw [iter_pos hit1, HIP.out]; omega
          · have hnx : ∀ ty, (Instr.next (.pointer (some ⟨wo.heap.size, 0, none⟩)) true ty).run Tryz.prog wr = _ := fun ty => Lib.run_next_end_at wr wo.heap.size sk pos ty hit hp
            have HN : Hid (lvBad ((levelsS s).drop (k + 1)) = lvBad (levelsS s)) := by
              have h1 := HST.out
              rw [← HCI.out, scanFrom_end sk last b pos hp, Bool.false_or, HC.out] at h1
              exact h1.symm
            go_wp2
            go_roundw
            case rel => exact ⟨k + 1, by omega, by go_num, hbr.trans (hbi.mono hbr.size), HN⟩
            case measure => simp [intOf]; omega
      · have hf := HC.out
        rw [lvBad_end _ _ hlt] at hf
        have HF := Lib.hid hf
        clear hf hA
        go_wp2
        (repeat (first | rw [Exit.noGoto_ret] | simp only [Exit.inBlock, Exit.then]))
        go_ret
        refine ⟨?_, hbw.trans (hbr.mono hbw.size)⟩
        rw [H.out, ← HF.out]; rfl
  · have e0 : (textS s != 0) = true := by simp [h0]
    have H := Lib.hid (show filterS s = textS s by simp [filterS, h0])
    clear h0
    go_enter Tryz.func38, Tryz.ntmps38
    go_wp2
    go_step3
    go_wp2_with fail
    refine (text_any s _).mono ?_
    rintro e w1 ⟨rfl, hb1⟩
    go_wp2
    (repeat (first | rw [Exit.noGoto_ret] | simp only [Exit.inBlock, Exit.then]))
    go_ret
    exact ⟨by rw [H.out]; rfl, hb1⟩
end Go.Proofs.YtjeafniglnnkhaaGreatDoor
