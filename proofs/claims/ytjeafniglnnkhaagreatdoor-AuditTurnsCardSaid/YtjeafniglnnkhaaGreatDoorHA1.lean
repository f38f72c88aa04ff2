/- Walks: wire.Check, topic.Levels. -/
import Derived.Test.YtjeafniglnnkhaaGreatDoorChecked
import Derived.Test.YtjeafniglnnkhaaGreatDoorHS1
import Derived.Test.YtjeafniglnnkhaaGreatDoorHL0
import Derived.WalkKit
import Derived.WalkLawsBesides
import Derived.WalkSpells
import Derived.Below
import Derived.Outline
import Derived.Lib.OthersKept
import Derived.Lib.Hide
namespace Go.Proofs.YtjeafniglnnkhaaGreatDoor
open Go.RowKit

set_option maxRecDepth 100000 in
set_option maxHeartbeats 400000 in
theorem check_any (s : ByteArray) (w : World) :
    Calls Tryz.prog 91 #[.string s] w fun e w' => e = .returned (.tuple #[.int .i64 (checkS s).1, .int .i64 (checkS s).2]) ∧ Below w.heap.size w w' := by
  by_cases hs : 65535 < s.size
  · have e : checkS s = (65535, 11) := by simp [checkS, hs]
    have hs' : decide ((65535 : Int) < s.size) = true := by simp; omega
    have H := Lib.hid e
    clear e
    go_enter Tryz.func91, Tryz.ntmps91
    go_wp2
    go_ret2
    exact ⟨by rw [H.out]; rfl, Below.refl _ _⟩
  · have e : checkS s = checkFrom s s.size 0 := by simp [checkS, hs]
    rw [e]
    have hs' : ¬ (65535 : Int) < s.size := by omega
    clear e
    go_enter Tryz.func91, Tryz.ntmps91
    go_wp2
    go_loopw [] (fun w' => ∃ (pos b : Nat), w' = w.iter s pos ∧ checkFrom s b pos = checkFrom s s.size 0 ∧ s.size ≤ pos + b) (fun w' => s.size - w'.iterPos w.heap.size)
    case atStart => exact ⟨0, s.size, rfl, rfl, by omega⟩
    case round =>
      obtain ⟨pos, b, rfl, hc, hb⟩ := hrel
      by_cases hp : pos < s.size
      · have hnx : ∀ ty, (Instr.next (.pointer (some ⟨w.heap.size, 0, none⟩)) true ty).run Tryz.prog (w.iter s pos) = _ := fun ty => run_next_any w s pos ty hp
        have hwd := width_pos s pos hp
        obtain ⟨b, rfl⟩ : ∃ b', b = b' + 1 := ⟨b - 1, by omega⟩
        have HC := Lib.hid hc
        clear hc
        by_cases h0 : (Utf8.decode s pos).1 = 0
        · have e0 : (((Utf8.decode s pos).1 : Int) == 0) = true := by simp [h0]
          have HE := Lib.hid h0
          clear h0
          go_wp2
          go_ret2
          rw [← HC.out]
          exact ⟨by simp only [checkFrom, if_pos hp, if_pos HE.out]; rfl, (Below.refl _ _).alloc (Nat.le_refl _) _⟩
        · have e0 : (((Utf8.decode s pos).1 : Int) == 0) = false := by simp [h0]
          by_cases h1 : (Utf8.decode s pos).1 = 65533
          · have e1 : (((Utf8.decode s pos).1 : Int) == 65533) = true := by simp [h1]
            have HE := Lib.hid h0
            have HF := Lib.hid h1
            clear h0 h1
            go_wp2_with (go_at_call 109; refine (Tryz.strings_HasPrefix _ _ _).mono ?_; rintro e w' ⟨rfl, rfl⟩)
            · have hq : Lib.hasPrefix (List.take (s.size - pos) (List.drop pos s.data.toList)) [239, 191, 189] = false := by simpa using ‹(!_) = true›
              go_ret2
              rw [← HC.out]
              exact ⟨by simp only [checkFrom, if_pos hp, if_neg HE.out, HF.out, hq, and_self, if_true]; rfl, (Below.refl _ _).alloc (Nat.le_refl _) _⟩
            · have hq : Lib.hasPrefix (List.take (s.size - pos) (List.drop pos s.data.toList)) [239, 191, 189] = true := by simpa using ‹(!_) = false›
              go_roundw
              case rel => exact ⟨_, b, rfl, by rw [← HC.out]; simp only [checkFrom, if_pos hp, if_neg HE.out, hq, HF.out]; simp, by omega⟩
              case measure => simp; omega
          · have e1 : (((Utf8.decode s pos).1 : Int) == 65533) = false := by simp; omega
            have HE := Lib.hid h0
            have HF := Lib.hid h1
            clear h0 h1
            go_wp2
            go_roundw
            case rel => exact ⟨_, b, rfl, by rw [← HC.out]; simp only [checkFrom, if_pos hp, if_neg HE.out, HF.out]; simp, by omega⟩
            case measure => simp; omega
      · have hnx : ∀ ty, (Instr.next (.pointer (some ⟨w.heap.size, 0, none⟩)) true ty).run Tryz.prog (w.iter s pos) = _ := fun ty => run_next_end w s pos ty hp
        have HC := Lib.hid hc
        clear hc
        go_wp2
        go_ret2
        rw [← HC.out, checkFrom_end s b pos hp]
        exact ⟨rfl, (Below.refl _ _).alloc (Nat.le_refl _) _⟩
end Go.Proofs.YtjeafniglnnkhaaGreatDoor
