/- Walk: plain. -/
import Derived.Test.YtjeafniglnnkhaaGreatDoorHB5
namespace Go.Proofs.YtjeafniglnnkhaaGreatDoor
open Go.RowKit

def PlainTo (I : Img) (k : Nat) : Prop :=
  (∀ i j (hi : i < I.ses.length) (hj : j < I.ses.length), i < k → j < i → I.ses[j].client.toList ≠ I.ses[i].client.toList) ∧ ∀ i (hi : i < I.ses.length), i < k → ∀ a ∈ I.ses[i].subs, 0 ≤ a.2 ∧ a.2 ≤ 2

def PlainPost (I : Img) (w : World) (e : Ending) (w' : World) : Prop := (∃ r : Bool, e = .returned (.bool r) ∧ (r = true → PlainTo I I.ses.length)) ∧ Below w.heap.size w w'

set_option maxRecDepth 100000 in
set_option maxHeartbeats 2000000 in
theorem plain_any (autos : Int) (vs vr vg : Value) (I : Img) (w : World) (B : Nat) (hI : IsImg w B vs vr vg I) (hB : B ≤ w.heap.size) :
    Calls Tryz.prog 6 #[.agg #[.int .i64 autos, vs, vr, vg]] w (PlainPost I w) := by
  obtain ⟨As, cs, Ar, nr, cr, Ag, cg, rfl, rfl, rfl, hcs, hcg, hns, hng⟩ := hI.vals
  obtain ⟨w0, hw0, hb0, hsz0, hI0, i0, i1, i2, i3⟩ := boxed (autos := autos) hI hB
  have HW := Lib.hid hw0
  have HI := Lib.hid hI0
  have I1 := Lib.hid i1
  clear hI hw0 hI0 i0 i2 i3 i1
  go_enter Tryz.func6, Tryz.ntmps6
  go_wp2
  rw [← HW.out]
  go_loopw [3] (fun i wr => ∃ k : Nat, i = .int .i64 k ∧ k ≤ I.ses.length ∧ Below w0.heap.size w0 wr ∧ Hid (PlainTo I k)) (fun i _ => I.ses.length - (intOf i).toNat)
  case atStart => exact ⟨0, rfl, by omega, Below.refl _ _, ⟨fun i j hi hj h => by omega, fun i hi h => by omega⟩⟩
  case round =>
    obtain ⟨k, rfl, hk, hbr, HK⟩ := hrel
    have b1 := (hbr.cell (p := ⟨w.heap.size, 1, none⟩) (by show w.heap.size < _; omega)).trans I1.out
    by_cases hlt : k < I.ses.length
    · have hIr := HI.out.below (hbr.mono (by omega))
      have HIR := Lib.hid hIr
      obtain ⟨bb, oo, rfl, hbb, Au, Af, Aq, Ai, cu, cf, cq, ci, nf, nq, ni, last, g0, g1, g2, g3, g4, g5, r1, hul⟩ := hIr.at_ hlt
      have R1 := Lib.hid r1
      clear hIr r1
      have s0 := box_cell wr #[.string I.ses[k].client, .slice Au I.ses[k].subs.length cu, .int .i64 last, .slice Af nf cf, .slice Aq nq cq, .slice Ai ni ci] 47 0 (u := .string I.ses[k].client) rfl
      have s1 := box_cell wr #[.string I.ses[k].client, .slice Au I.ses[k].subs.length cu, .int .i64 last, .slice Af nf cf, .slice Aq nq cq, .slice Ai ni ci] 47 1 (u := .slice Au I.ses[k].subs.length cu) rfl
      have hbox : Below wr.heap.size wr (wr.alloc (.cells #[.string I.ses[k].client, .slice Au I.ses[k].subs.length cu, .int .i64 last, .slice Af nf cf, .slice Aq nq cq, .slice Ai ni ci] 47)) := (Below.refl _ _).alloc (Nat.le_refl _) _
      have S0 := Lib.hid s0
      have S1 := Lib.hid s1
      clear s0 s1
      go_wp2_with fail
      generalize wr.alloc (.cells #[.string I.ses[k].client, .slice Au I.ses[k].subs.length cu, .int .i64 last, .slice Af nf cf, .slice Aq nq cq, .slice Ai ni ci] 47) = w1 at *
      have hwr := hbr.size
      have hI1 := HIR.out.below (hbox.mono (by omega))
      have HI1 := Lib.hid hI1
      have c1 := (hbox.cell (p := ⟨w.heap.size, 1, none⟩) (by show w.heap.size < _; omega)).trans b1
      have c0 := S0.out
      have hb1 := hbr.trans (hbox.mono hbr.size)
      clear g0 g1 g2 g3 g4 g5 hI1 b1
      go_loopw [5] (fun i wi => ∃ j q : Nat, i = .int .i64 j ∧ j ≤ k ∧ wi = w1.drewN q ∧ Hid (∀ i (hi : i < I.ses.length), i < j → I.ses[i].client.toList ≠ I.ses[k].client.toList)) (fun i _ => k - (intOf i).toNat)
      case atStart => exact ⟨0, 0, rfl, by omega, rfl, fun i hi h => by omega⟩
      case round =>
        obtain ⟨j, q, rfl, hj, rfl, HJ⟩ := hrel
        by_cases hjk : j < k
        · obtain ⟨b', o', e, _, Au', Af', Aq', Ai', cu', cf', cq', ci', nf', nq', ni', last', d0, d1, d2, d3, d4, d5, r1, _⟩ := HI1.out.at_ (show j < I.ses.length by omega)
          cases e
          clear d1 d2 d3 d4 d5 r1
          by_cases heq : I.ses[j].client.toList = I.ses[k].client.toList
          · have he : (I.ses[j].client.toList == I.ses[k].client.toList) = true := by simp [heq]
            clear heq
            go_wp2
            go_quiet (fail)
            go_wp2
            go_ret
            exact ⟨⟨false, rfl, fun h => by cases h⟩, below_drewN (below_drewN (hb0.trans (hb1.mono (by omega))) _) _⟩
          · have he : (I.ses[j].client.toList == I.ses[k].client.toList) = false := by simp [heq]
            have HE := Lib.hid heq
            clear heq
            go_wp2
            go_quiet (fail)
            go_wp2
            go_roundw
            case rel => exact ⟨j + 1, _, by go_num, by omega, rfl, fun i hi h => by
              rcases Nat.lt_or_ge i j with h' | h'
              · exact HJ.out i hi h'
              · obtain rfl : i = j := by omega
                exact HE.out⟩
            case measure => simp [intOf]; omega
        · have HJ2 := Lib.hid (show ∀ i (hi : i < I.ses.length), i < k → I.ses[i].client.toList ≠ I.ses[k].client.toList from fun i hi h => HJ.out i hi (by omega))
          have c2 := S1.out
          go_wp2
          go_loop [6] (fun i => ∃ m : Nat, i = .int .i64 m ∧ m ≤ I.ses[k].subs.length ∧ Hid (∀ a ∈ I.ses[k].subs.take m, 0 ≤ a.2 ∧ a.2 ≤ 2)) (fun i => I.ses[k].subs.length - (intOf i).toNat)
          case atStart => exact ⟨0, rfl, by omega, fun a ha => by simp at ha⟩
          case round =>
            obtain ⟨m, rfl, hm, HM⟩ := hrel
            by_cases hmk : m < I.ses[k].subs.length
            · obtain ⟨ba, oa, rfl, _, a0, a1⟩ := asks_at (R1.out.below (hbox.mono (by omega)) (fun _ _ h => h)) hmk
              clear a0
              generalize hqq : I.ses[k].subs[m].2 = qq at *
              have HQ := Lib.hid hqq
              clear hqq
              by_cases hlo : qq < 0
              · go_wp2
                go_ret
                exact ⟨⟨false, rfl, fun h => by cases h⟩, below_drewN (hb0.trans (hb1.mono (by omega))) _⟩
              · by_cases hhi : 2 < qq
                · go_wp2
                  go_ret
                  exact ⟨⟨false, rfl, fun h => by cases h⟩, below_drewN (hb0.trans (hb1.mono (by omega))) _⟩
                · go_wp2
                  go_round
                  case rel => exact ⟨m + 1, by go_num, by omega, fun a ha => by
                    rw [List.take_succ_eq_append_getElem hmk] at ha
                    rcases List.mem_append.1 ha with ha | ha
                    · exact HM.out a ha
                    · simp at ha
                      subst ha
                      rw [HQ.out]
                      omega⟩
                  case measure => simp [intOf]; omega
            · have HN : Hid (PlainTo I (k + 1)) := by
                refine ⟨fun i l hi hl h1 h2 => ?_, fun i hi h => ?_⟩
                · rcases Nat.lt_or_ge i k with h' | h'
                  · exact HK.out.1 i l hi hl h' h2
                  · obtain rfl : i = k := by omega
                    exact HJ2.out l hl h2
                · rcases Nat.lt_or_ge i k with h' | h'
                  · exact HK.out.2 i hi h'
                  · obtain rfl : i = k := by omega
                    have hm2 := HM.out
                    rwa [List.take_of_length_le (by omega)] at hm2
              go_wp2
              go_roundw
              case rel => exact ⟨k + 1, by go_num, by omega, below_drewN hb1 _, HN⟩
              case measure => simp [intOf]; omega
    · have HT := Lib.hid (show PlainTo I I.ses.length by rw [show I.ses.length = k by omega]; exact HK.out)
      go_wp2
      go_ret
      exact ⟨⟨true, rfl, fun _ => HT.out⟩, hb0.trans (hbr.mono (by omega))⟩
end Go.Proofs.YtjeafniglnnkhaaGreatDoor
