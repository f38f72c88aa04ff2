/- Walk: cover.Meet of a filter of two levels with the one that all topics match. -/
/- Walks: slices.SortStableFunc of one message; slices.Clone of nil; audit.Kept of one retained message without a payload. -/
import Derived.Test.YtjeafniglnnkhaaGreatDoorHK10
import Derived.Test.YtjeafniglnnkhaaGreatDoorHF9
import Derived.Test.YtjeafniglnnkhaaGreatDoorHF7
namespace Go.Proofs.YtjeafniglnnkhaaGreatDoor
open Go.RowKit

theorem hash_lvs (w : World) :
    Calls Tryz.prog 80 #[.string kHash] w fun e w' => ∃ b o c, e = .returned (.tuple #[.slice (some ⟨b, o, none⟩) 1 c, .bool true]) ∧ b < w'.heap.size ∧ w'.cell? ⟨b, o, none⟩ = some (.string kHash) ∧ Below w.heap.size w w' := by
  refine (lvs_any kHash w (by decide) (by kernel_rfl) (by kernel_rfl)).mono ?_
  rintro e w' ⟨v, rfl, hs, hb⟩
  rw [show levelsS kHash = [kHash] by kernel_rfl] at hs
  obtain ⟨A, c, rfl, _, hA⟩ := hs
  obtain ⟨b, o, rfl, hbl, hc⟩ := hA (by simp)
  exact ⟨b, o, c, rfl, hbl, hc 0 (by simp), hb⟩

theorem Two.lvs2 {f x y : ByteArray} (h : Two f x y) (w : World) :
    Calls Tryz.prog 80 #[.string f] w fun e w' => ∃ b o c, e = .returned (.tuple #[.slice (some ⟨b, o, none⟩) 2 c, .bool true]) ∧ 2 ≤ c ∧ b < w'.heap.size ∧ w'.cell? ⟨b, o, none⟩ = some (.string x) ∧ w'.cell? ⟨b, o + 1, none⟩ = some (.string y) ∧ Below w.heap.size w w' := by
  refine (lvs_any f w (by have := h.size; omega) h.shared h.filter).mono ?_
  rintro e w' ⟨v, rfl, hs, hb⟩
  rw [h.levels] at hs
  obtain ⟨A, c, rfl, hcc, hA⟩ := hs
  obtain ⟨b, o, rfl, hbl, hc⟩ := hA (by simp)
  exact ⟨b, o, c, rfl, hcc, hbl, hc 0 (by simp), hc 1 (by simp), hb⟩

set_option maxRecDepth 100000 in
set_option maxHeartbeats 2000000 in
theorem meet_hash (f x y : ByteArray) (hf : Two f x y) (hd : Lib.hasPrefix x.data.toList [36] = false) (hj : (joinS (leastS [x, y])).size ≤ 65535) : MeetIs f kHash true := by
  intro w
  obtain ⟨i0, hi, hz0, hz1, hz2⟩ := info_parts info9
  have HF := fun W => Lib.hid (hf.lvs2 W)
  have HG := fun W => Lib.hid (hash_lvs W)
  have hx35 := hf.x35
  have hx43 := hf.x43
  have hy35 := hf.y35
  have HS := fun W => Lib.hid (show Calls Tryz.prog 81 #[.string x] W fun e w' => e = .returned (.bool false) ∧ w' = W by have h := sign_any x W; rw [sign_no hx35 hx43] at h; exact h)
  have HH := fun W => Lib.hid (show Calls Tryz.prog 81 #[.string kHash] W fun e w' => e = .returned (.bool true) ∧ w' = W by have h := sign_any kHash W; rw [show signS kHash = true by kernel_rfl] at h; exact h)
  have HD := fun W => Lib.hid (show Calls Tryz.prog 82 #[.string x] W fun e w' => e = .returned (.bool false) ∧ w' = W by have h := dollar_any x W; rw [hd] at h; exact h)
  have hk35 : (kHash.toList == [35]) = true := by kernel_rfl
  have hl2 : (leastS [x, y]).length = 2 := by
    cases hy : (y.toList == [43]) <;> simp [leastS, hx35, hx43, hy35, hy]
  generalize kHash = hh at *
  clear hf hd
  go_enter Tryz.func57, Tryz.ntmps57
  go_wp2_with fail
  go_step3
  go_wp2_with fail
  refine (HF _).out.mono ?_
  rintro e w1 ⟨b1, o1, c1, rfl, hcc1, hl1, a0, a1, hb1⟩
  go_wp2_with fail
  refine (HG _).out.mono ?_
  rintro e w2 ⟨b2, o2, c2, rfl, hl2', d0, hb2⟩
  have hb12 := hb1.trans (hb2.mono hb1.size)
  have a0' := (hb2.cell (p := ⟨b1, o1, none⟩) hl1).trans a0
  have a1' := (hb2.cell (p := ⟨b1, o1 + 1, none⟩) hl1).trans a1
  clear a0 a1
  have hstr : IsStrs w2 w2.heap.size (.slice (some ⟨b1, o1, none⟩) 2 c1) [x, y] := ⟨_, _, rfl, by simpa using hcc1, fun _ => ⟨b1, o1, rfl, World.block_lt_of_cell? _ _ a0', fun i h => by
    match i, h with
    | 0, _ => exact a0'
    | 1, _ => exact a1'⟩⟩
  go_wp2_with fail
  refine (HS _).out.mono ?_
  rintro e w' ⟨rfl, hw⟩
  rw [hw]
  clear hw w'
  go_wp2_with fail
  refine (HH _).out.mono ?_
  rintro e w' ⟨rfl, hw⟩
  rw [hw]
  clear hw w'
  go_wp2_with fail
  refine (HD _).out.mono ?_
  rintro e w' ⟨rfl, hw⟩
  rw [hw]
  clear hw w'
  go_wp2_with fail
  go_step3
  go_wp2_with fail
  refine wp_loop_rounds 1 ?_
  rw [rounds_succ]
  go_wp2_with fail
  have HLN := Lib.hid (show (leastS [x, y]).length = 2 from hl2)
  clear hl2
  refine (least_any _ [x, y] w2.heap.size w2 hstr (Nat.le_refl _) (by simp)).mono ?_
  rintro e w3 ⟨v3, rfl, hown3, hb3⟩
  rw [HLN.out] at hown3
  have HJ := Lib.hid hj
  have hnil := World.ownsRow_nil w3 w2.heap.size 9 1
  have hone : ∀ u ∈ (leastS [x, y]).map Value.string, u.oneCell' = true := by
    intro u hu
    obtain ⟨a, _, rfl⟩ := List.mem_map.1 hu
    rfl
  have hb23 := hb3.size
  have hl1' := World.block_lt_of_cell? _ _ a0'
  have x0 := (hb3.cell (p := ⟨b1, o1, none⟩) hl1').trans a0'
  clear hj hstr a0' a1'
  go_wp2_with (first | (at_builtin; refine wpList_append_row rfl _ _ 78 rfl w2.heap.size 9 i0 _ 1 16 Tryz.underlying78 hi hz0 hz1 hz2 rfl (by decide) (.slice none 0 0) 0 [] rfl hnil _ _ 2 ((leastS [x, y]).map Value.string) rfl hown3 hone (by decide) (by decide) hb23 ?_; intro v4 w4 hown4 hb4 hg4; have x0' := (hb4.cell (p := ⟨b1, o1, none⟩) hl1').trans x0))
  refine (HS _).out.mono ?_
  rintro e w' ⟨rfl, hw⟩
  rw [hw]
  clear hw w'
  have hst4 : IsStrs w4 w4.heap.size v4 (leastS [x, y]) := IsStrs.of_owns (by rw [HLN.out]; simpa using hown4)
  have hbx : Below w4.heap.size w4 (w4.alloc (.cells #[.string f, .string hh] 9)) := (Below.refl _ _).alloc (Nat.le_refl _) _
  have hst5 := (hst4.below hbx).mono hbx.size
  have HT := Lib.hid (told_any v4 (.slice (some ⟨w4.heap.size, 0, none⟩) 2 2) false (leastS [x, y]) _ hst5 (by rw [HLN.out]; decide) (fun z hz => by have h := HLN.out; rw [hz] at h; simp at h) (by rw [HLN.out]; decide) HJ.out)
  have hb24 := (hb3.trans hb4).trans (hbx.mono (by have := (hb3.trans hb4).size; omega))
  clear hst4 hst5 hown4 hown3 x0 x0' hg4 hnil
  go_wp2_with fail
  refine HT.out.mono ?_
  rintro e w6 ⟨rfl, hb6⟩
  have HA := fun W => Lib.hid (show Calls Tryz.prog 84 #[.string (joinS (leastS [x, y])), .bool true] W fun e w' => e = .returned (.tuple #[.string (joinS (leastS [x, y])), .bool true]) ∧ w' = W from answer_any _ true W)
  go_wp2_with fail
  refine (HA _).out.mono ?_
  rintro e w' ⟨rfl, hw⟩
  rw [hw]
  clear hw w'
  go_wp2
  rw [Exit.noGoto_ret]
  go_ret2
  exact ⟨⟨_, rfl⟩, hb12.trans ((hb24.trans (hb6.mono hb24.size)).mono hb12.size)⟩

theorem meet_aplus : MeetIs kAPlus kHash true := meet_hash kAPlus kA kPlus two_aplus (by kernel_rfl) (of_decide_eq_true (by kernel_rfl))
theorem meet_ab : MeetIs kAB kHash true := meet_hash kAB kA kB two_ab (by kernel_rfl) (of_decide_eq_true (by kernel_rfl))
theorem meet_ac : MeetIs kAC kHash true := meet_hash kAC kA kC two_ac (by kernel_rfl) (of_decide_eq_true (by kernel_rfl))
end Go.Proofs.YtjeafniglnnkhaaGreatDoor

namespace Go.Proofs.YtjeafniglnnkhaaGreatDoor
open Go.RowKit

theorem insM_one (A : Option Addr) (c : Nat) (fv : Value) (w : World) : Calls Tryz.prog 110 #[.slice A 1 c, .int .i64 0, .int .i64 1, fv] w fun e w' => e = .returned (.tuple #[]) ∧ w' = w := by
  go_enter Tryz.func110, Tryz.ntmps110
  go_wp2
  refine wp_loop_rounds 1 ?_
  rw [rounds_succ]
  go_wp2
  go_end0
  exact ⟨rfl, rfl⟩

theorem stableM_one (A : Option Addr) (c : Nat) (fv : Value) (w : World) : Calls Tryz.prog 86 #[.slice A 1 c, .int .i64 1, fv] w fun e w' => e = .returned (.tuple #[]) ∧ w' = w := by
  go_enter Tryz.func86, Tryz.ntmps86
  go_wp2_with fail
  refine wp_loop_rounds 1 ?_
  rw [rounds_succ]
  go_wp2_with fail
  refine (insM_one A c fv w).mono ?_
  rintro e w' ⟨rfl, hw⟩
  rw [hw]
  clear hw w'
  go_wp2_with fail
  refine wp_loop_rounds 1 ?_
  rw [rounds_succ]
  go_wp2
  go_end0
  exact ⟨rfl, rfl⟩

theorem sortM_one (A : Option Addr) (c : Nat) (fv : Value) (w : World) : Calls Tryz.prog 59 #[.slice A 1 c, fv] w fun e w' => e = .returned (.tuple #[]) ∧ w' = w := by
  go_enter Tryz.func59, Tryz.ntmps59
  go_wp2_with fail
  refine (stableM_one A c fv w).mono ?_
  rintro e w' ⟨rfl, hw⟩
  rw [hw]
  clear hw w'
  go_wp2
  go_end0
  exact ⟨rfl, rfl⟩

theorem clone_nil (w : World) : Calls Tryz.prog 58 #[.slice none 0 0] w fun e w' => e = .returned (.slice none 0 0) ∧ w' = w := by
  have hq := fun W => Lib.run_eql_slice_nil (P := Tryz.prog) W 27 5 none 0 0 0 0 Tryz.underlying27
  go_enter Tryz.func58, Tryz.ntmps58
  go_wp2
  go_ret
  exact ⟨rfl, rfl⟩

set_option maxRecDepth 100000 in
theorem info29 : (Tryz.prog.info? 29).map (fun i => (i.zero, i.size, i.bytes)) = some (some (.agg #[.string ByteArray.empty, .slice none 0 0, .int .i64 0, .bool false]), 4, 56) := by kernel_rfl

set_option maxRecDepth 100000 in
set_option maxHeartbeats 2000000 in
theorem kept_one (autos : Int) (vs vg : Value) (br or_ cr : Nat) (t f : ByteArray) (w : World) (m0 : w.cell? ⟨br, or_, none⟩ = some (.string t)) (m1 : w.cell? ⟨br, or_ + 1, none⟩ = some (.slice none 0 0)) (m2 : w.cell? ⟨br, or_ + 2, none⟩ = some (.int .i64 0)) (m3 : w.cell? ⟨br, or_ + 3, none⟩ = some (.bool true))
    (hf : f.size ≤ 1000000) (ht : t.size ≤ 1000000) (hm : matchS f t = true) :
    Calls Tryz.prog 25 #[.agg #[.int .i64 autos, vs, .slice (some ⟨br, or_, none⟩) 1 cr, vg], .agg #[.string f, .int .i64 0]] w fun e w' => (∃ A c, e = .returned (.slice A 1 c)) ∧ Below w.heap.size w w' := by
  have hbr := World.block_lt_of_cell? _ _ m0
  have hzx : (w.alloc (.cells #[.int .i64 autos, vs, .slice (some ⟨br, or_, none⟩) 1 cr, vg] 26)).heap.size = w.heap.size + 1 := by simp
  have i2 := alloc_keep (box_cell w #[.int .i64 autos, vs, .slice (some ⟨br, or_, none⟩) 1 cr, vg] 26 2 (u := .slice (some ⟨br, or_, none⟩) 1 cr) rfl) (.cells #[.string f, .int .i64 0] 49)
  have a0 := box_cell (w.alloc (.cells #[.int .i64 autos, vs, .slice (some ⟨br, or_, none⟩) 1 cr, vg] 26)) #[.string f, .int .i64 0] 49 0 (u := .string f) rfl
  have a1 := box_cell (w.alloc (.cells #[.int .i64 autos, vs, .slice (some ⟨br, or_, none⟩) 1 cr, vg] 26)) #[.string f, .int .i64 0] 49 1 (u := .int .i64 0) rfl
  rw [hzx] at a0 a1
  have hb0 : Below w.heap.size w ((w.alloc (.cells #[.int .i64 autos, vs, .slice (some ⟨br, or_, none⟩) 1 cr, vg] 26)).alloc (.cells #[.string f, .int .i64 0] 49)) := ((Below.refl _ _).alloc (Nat.le_refl _) _).alloc (by rw [hzx]; omega) _
  have k0 := (hb0.cell (p := ⟨br, or_, none⟩) hbr).trans m0
  have k1 := (hb0.cell (p := ⟨br, or_ + 1, none⟩) hbr).trans m1
  have k2 := (hb0.cell (p := ⟨br, or_ + 2, none⟩) hbr).trans m2
  have k3 := (hb0.cell (p := ⟨br, or_ + 3, none⟩) hbr).trans m3
  clear m0 m1 m2 m3 hzx
  have HM := fun W => Lib.hid (show Calls Tryz.prog 9 #[.string f, .string t] W fun e w' => e = .returned (.bool true) ∧ Below W.heap.size W w' by have h := match_any f t W hf ht; rw [hm] at h; exact h)
  clear hm
  go_enter Tryz.func25, Tryz.ntmps25
  go_wp2_with fail
  generalize (w.alloc (.cells #[.int .i64 autos, vs, .slice (some ⟨br, or_, none⟩) 1 cr, vg] 26)).alloc (.cells #[.string f, .int .i64 0] 49) = w1 at *
  refine (good_yes 0 w1 (by decide) (by decide)).mono ?_
  rintro e w' ⟨rfl, hw⟩
  rw [hw]
  clear hw w'
  go_wp2_with fail
  refine wp_loop_rounds 2 ?_
  rw [rounds_succ]
  have hw1l := World.block_lt_of_cell? _ _ a0
  have s0 := box_cell w1 #[.string t, .slice none 0 0, .int .i64 0, .bool true] 29 0 (u := .string t) rfl
  have a0' := alloc_keep a0 (.cells #[.string t, .slice none 0 0, .int .i64 0, .bool true] 29)
  have a1' := alloc_keep a1 (.cells #[.string t, .slice none 0 0, .int .i64 0, .bool true] 29)
  have hbk : (w1.alloc (.cells #[.string t, .slice none 0 0, .int .i64 0, .bool true] 29)).heap[w1.heap.size]? = some (.cells #[.string t, .slice none 0 0, .int .i64 0, .bool true] 29 (0, 0)) := heap_alloc_new w1 _
  have hb2 : Below w1.heap.size w1 (w1.alloc (.cells #[.string t, .slice none 0 0, .int .i64 0, .bool true] 29)) := (Below.refl _ _).alloc (Nat.le_refl _) _
  clear a0 a1 i2
  go_wp2_with fail
  generalize w1.alloc (.cells #[.string t, .slice none 0 0, .int .i64 0, .bool true] 29) = w2 at *
  refine (HM w2).out.mono ?_
  rintro e w3 ⟨rfl, hb3⟩
  have hm2 : w1.heap.size < w2.heap.size := World.block_lt_of_cell? _ _ s0
  have hw12 : w.heap.size + 1 < w2.heap.size := World.block_lt_of_cell? _ _ a0'
  have hbk3 := (hb3.block w1.heap.size hm2).trans hbk
  have a1 := (hb3.cell (p := ⟨w.heap.size + 1, 1, none⟩) hw12).trans a1'
  have hb13 := hb2.trans (hb3.mono hb2.size)
  have y1 : w3.cell? ⟨w1.heap.size, 1, none⟩ = some (.slice none 0 0) := (cell_of_row w3 w1.heap.size 1 _ 29 (0, 0) hbk3).trans rfl
  have fz1 : w3.frozen? ⟨w1.heap.size, 1, none⟩ = false := by simp [World.frozen?, hbk3]
  have hbk4 : (w3.setCell ⟨w1.heap.size, 1, none⟩ (.slice none 0 0)).heap[w1.heap.size]? = some (.cells #[.string t, .slice none 0 0, .int .i64 0, .bool true] 29 (0, 0)) := by simp [World.setCell, Array.getElem?_modify, hbk3]
  have hb14 : Below w1.heap.size w1 (w3.setCell ⟨w1.heap.size, 1, none⟩ (.slice none 0 0)) := hb13.setCell (Nat.le_refl _) _
  have hwne : w1.heap.size ≠ w.heap.size + 1 := by omega
  have y0 : w3.cell? ⟨w1.heap.size, 0, none⟩ = some (.string t) := (cell_of_row w3 w1.heap.size 0 _ 29 (0, 0) hbk3).trans rfl
  have y2 : w3.cell? ⟨w1.heap.size, 2, none⟩ = some (.int .i64 0) := (cell_of_row w3 w1.heap.size 2 _ 29 (0, 0) hbk3).trans rfl
  have y3 : w3.cell? ⟨w1.heap.size, 3, none⟩ = some (.bool true) := (cell_of_row w3 w1.heap.size 3 _ 29 (0, 0) hbk3).trans rfl
  have fz2 : w3.frozen? ⟨w1.heap.size, 2, none⟩ = false := by simp [World.frozen?, hbk3]
  have hwne' : ¬ w.heap.size + 1 = w1.heap.size := by omega
  have a14 : (w3.setCell ⟨w1.heap.size, 1, none⟩ (.slice none 0 0)).cell? ⟨w.heap.size + 1, 1, none⟩ = some (.int .i64 0) := (World.cell?_setCell_other _ _ _ _ (fun h => hwne (by injection h))).trans a1
  clear hbk s0 a0' a1' hb2 hb3 a14 k0 k1 k2 k3
  go_wp2_with fail
  refine (clone_nil w3).mono ?_
  rintro e w' ⟨rfl, hw⟩
  rw [hw]
  clear hw w'
  obtain ⟨i0, hi, hz0, hz1, hz2⟩ := info_parts info29
  have hnil : ((w3.setCell ⟨w1.heap.size, 1, none⟩ (.slice none 0 0)).setCell ⟨w1.heap.size, 2, none⟩ (.int .i64 0)).ownsRow w1.heap.size 29 4 (.slice none 0 0) 0 [] := World.ownsRow_nil _ _ _ _
  have hb15 : Below w1.heap.size w1 ((w3.setCell ⟨w1.heap.size, 1, none⟩ (.slice none 0 0)).setCell ⟨w1.heap.size, 2, none⟩ (.int .i64 0)) := hb14.setCell (Nat.le_refl _) _
  have hsz5 := hb15.size
  have HSE := Lib.hid (show ((w3.setCell ⟨w1.heap.size, 1, none⟩ (.slice none 0 0)).setCell ⟨w1.heap.size, 2, none⟩ (.int .i64 0)).heap.size = w3.heap.size by simp [World.setCell])
  go_wp2_with (first | (at_builtin; (refine wpList_app rfl _ _ 23 rfl w1.heap.size 29 i0 _ 4 56 Tryz.underlying23 hi hz0 hz1 hz2 rfl (by decide) (.slice none 0 0) 0 [] rfl hnil [.string t, .slice none 0 0, .int .i64 0, .bool true] rfl (by rw [HSE.out]; rfl) (by intro u hu; simp at hu; rcases hu with rfl | rfl | rfl | rfl <;> rfl) (by decide) (by decide) hsz5 ?_; intro v6 w6 hown6 hbel6 hsz6 hdr6 hg6; obtain ⟨g6, cap6, rfl, hgb6, hgl6⟩ := hown6.form (Nat.succ_pos _))))
  rw [rounds_succ]
  go_wp2_with fail
  refine (sortM_one _ cap6 _ w6).mono ?_
  rintro e w' ⟨rfl, hw⟩
  rw [hw]
  clear hw w'
  go_wp2
  go_ret
  exact ⟨⟨_, _, rfl⟩, hb0.trans ((hb15.trans hbel6).mono (by omega))⟩
end Go.Proofs.YtjeafniglnnkhaaGreatDoor
