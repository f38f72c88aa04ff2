/- Walk: topic.Levels. -/
import Derived.Test.YtjeafniglnnkhaaGreatDoorHA1
import Derived.Test.YtjeafniglnnkhaaGreatDoorHW0
namespace Go.Proofs.YtjeafniglnnkhaaGreatDoor
open Go.RowKit

theorem info9 : (Tryz.prog.info? 9).map (fun i => (i.zero, i.size, i.bytes)) = some (some (.string ByteArray.empty), 1, 16) := by kernel_rfl

theorem levels_append (s : ByteArray) (acc : List ByteArray) (b pos frm : Nat) (h : pos < s.size) (hc : (Utf8.decode s pos).1 = 47) (H : acc ++ levelsFrom s (b + 1) pos frm = levelsS s) :
    (acc ++ [s.extract frm pos]) ++ levelsFrom s b (pos + (Utf8.decode s pos).2) (pos + 1) = levelsS s := by
  rw [← H, levelsFrom, if_pos h, if_pos hc]; simp
theorem levels_skip (s : ByteArray) (acc : List ByteArray) (b pos frm : Nat) (h : pos < s.size) (hc : ¬ (Utf8.decode s pos).1 = 47) (H : acc ++ levelsFrom s (b + 1) pos frm = levelsS s) :
    acc ++ levelsFrom s b (pos + (Utf8.decode s pos).2) frm = levelsS s := by
  rw [← H, levelsFrom, if_pos h, if_neg hc]

set_option maxRecDepth 100000 in
set_option maxHeartbeats 400000 in
theorem levels_lay (s : ByteArray) (w : World) (hs : s.size ≤ 1000000) :
    Calls Tryz.prog 35 #[.string s] w fun e w' => ∃ v, e = .returned v ∧ w'.ownsRow w.heap.size 9 1 v (levelsS s).length ((levelsS s).map .string) ∧ Lay w w' := by
  obtain ⟨i0, hi, hz0, hz1, hz2⟩ := info_parts info9
  have hs' : (s.size : Int) ≤ 1000000 := by omega
  go_enter Tryz.func35, Tryz.ntmps35
  go_wp2
  go_loopw [3, 4] (fun v f wr => ∃ (pos frm b : Nat) (acc : List ByteArray), wr.ownsRow (w.heap.size + 1) 9 1 v acc.length (acc.map .string) ∧ wr.heap[w.heap.size]? = some (.stringIter s pos) ∧ Below w.heap.size w wr ∧ w.drawn ≤ wr.drawn ∧ f = .int .i64 frm ∧ Hid (acc ++ levelsFrom s b pos frm = levelsS s) ∧ s.size ≤ pos + b ∧ frm ≤ pos ∧ frm ≤ s.size ∧ acc.length ≤ frm) (fun _ _ wr => s.size - wr.iterPos w.heap.size)
  case atStart => exact ⟨0, 0, s.size, [], World.ownsRow_nil _ _ _ _, World.iter_heap _ _ _, (Below.refl _ _).alloc (Nat.le_refl _) _, Nat.le_refl _, rfl, rfl, by omega, by omega, by omega, by simp⟩
  case round =>
    obtain ⟨pos, frm, b, acc, hown, hit, hb, hdr, rfl, HC, hbb, hf1, hf2, hal⟩ := hrel
    have hwr : w.heap.size < wr.heap.size := (Array.getElem?_eq_some_iff.1 hit).1
    have hip := iter_pos hit
    by_cases hp : pos < s.size
    · obtain ⟨w1, hnx, hit1, hsz1, hd1, hg1⟩ := iter_next Tryz.prog wr w.heap.size s pos hit hp
      have hwd := width_pos s pos hp
      have hown1 := owns_of_grown hown hg1 (Nat.lt_succ_self _)
      have hb1 := hb.grown hg1 hb.size (fun k hk => by injection hk with hk; omega)
      have hwr1 : w.heap.size + 1 ≤ w1.heap.size := by omega
      clear hg1 hown hb hit hsz1
      have HIP := Lib.hid hip
      clear hip
      obtain ⟨b, rfl⟩ : ∃ b', b = b' + 1 := ⟨b - 1, by omega⟩
      by_cases h0 : (Utf8.decode s pos).1 = 47
      · have e0 : (((Utf8.decode s pos).1 : Int) == 47) = true := by simp [h0]
        have HE := Lib.hid h0
        clear h0
        go_wp2_with (at_builtin; refine wpList_app rfl _ _ 78 rfl (w.heap.size + 1) 9 i0 (.string ByteArray.empty) 1 16 Tryz.underlying78 hi hz0 hz1 hz2 rfl (by decide) _ _ _ rfl hown1 [.string (s.extract frm pos)] rfl rfl ?c1 ?c2 (by decide) ?c3 ?_; rotate_left 3; intro v' w2 hown2 hb2 hsz2 hd2 _)
        go_roundw
        case rel => exact ⟨_, pos + 1, b, acc ++ [s.extract frm pos], by simpa using hown2, iter_below hit1 hb2 (Nat.lt_succ_self _), hb1.trans (hb2.mono (Nat.le_succ _)), Nat.le_trans hdr (Nat.le_trans hd1 hd2), by go_num, levels_append s acc b pos frm hp HE.out HC.out, by omega, by omega, by omega, by simp; omega⟩
        case measure => rw [iter_pos (iter_below hit1 hb2 (Nat.lt_succ_self _)), HIP.out]; omega
        case c1 => simp [Value.oneCell']
        case c2 => omega
        case c3 => omega
      · have e0 : (((Utf8.decode s pos).1 : Int) == 47) = false := by simp; omega
        have HE := Lib.hid h0
        clear h0
        go_wp2
        go_roundw
        case rel => exact ⟨_, frm, b, acc, hown1, hit1, hb1, Nat.le_trans hdr hd1, rfl, levels_skip s acc b pos frm hp HE.out HC.out, by omega, by omega, by omega, by omega⟩
        case measure => rw [iter_pos hit1, HIP.out]; omega
    · have hnx : ∀ ty, (Instr.next (.pointer (some ⟨w.heap.size, 0, none⟩)) true ty).run Tryz.prog wr = _ := fun ty => Lib.run_next_end_at wr w.heap.size s pos ty hit hp
      clear hip
      go_wp2_with (at_builtin; refine wpList_app rfl _ _ 78 rfl (w.heap.size + 1) 9 i0 (.string ByteArray.empty) 1 16 Tryz.underlying78 hi hz0 hz1 hz2 rfl (by decide) _ _ _ rfl hown [.string (s.extract frm s.size)] rfl rfl ?c1 ?c2 (by decide) ?c3 ?_; rotate_left 3; intro v' w2 hown2 hb2 hsz2 hd2 _)
      · go_ret
        have hl : levelsS s = acc ++ [s.extract frm s.size] := by rw [← HC.out, levelsFrom_end s b pos frm hp]
        exact ⟨v', rfl, by rw [hl]; exact owns_mono (by simpa using hown2) (Nat.le_succ _), hb.trans (hb2.mono (Nat.le_succ _)), Nat.le_trans hdr hd2⟩
      case c1 => simp [Value.oneCell']
      case c2 => omega
      case c3 => omega

theorem levels_any (s : ByteArray) (w : World) (hs : s.size ≤ 1000000) :
    Calls Tryz.prog 35 #[.string s] w fun e w' => ∃ v, e = .returned v ∧ w'.ownsRow w.heap.size 9 1 v (levelsS s).length ((levelsS s).map .string) ∧ Below w.heap.size w w' :=
  (levels_lay s w hs).mono fun _ _ ⟨v, he, ho, hb⟩ => ⟨v, he, ho, hb.1⟩
end Go.Proofs.YtjeafniglnnkhaaGreatDoor
