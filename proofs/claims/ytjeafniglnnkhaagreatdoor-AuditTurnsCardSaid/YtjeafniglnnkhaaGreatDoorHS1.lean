/- Plain functions: what the text functions of the program compute, on bytes. No program, no memory. -/
import GoSem.Claim
import Derived.Laws.RangeAny
import Derived.Lib.Strings
namespace Go.Proofs.YtjeafniglnnkhaaGreatDoor
open Go

/-- wire.Check from place pos on. -/
def checkFrom (s : ByteArray) : Nat → Nat → Int × Int
  | 0, _ => (0, 0)
  | fuel + 1, pos =>
    if pos < s.size then
      if (Utf8.decode s pos).1 = 0 then ((pos : Int), 14)
      else if (Utf8.decode s pos).1 = 65533 ∧ Lib.hasPrefix (List.take (s.size - pos) (List.drop pos s.data.toList)) [239, 191, 189] = false then ((pos : Int), 13)
      else checkFrom s fuel (pos + (Utf8.decode s pos).2)
    else (0, 0)
def checkS (s : ByteArray) : Int × Int := if 65535 < s.size then (65535, 11) else checkFrom s s.size 0

theorem width_pos (s : ByteArray) (pos : Nat) (h : pos < s.size) : 1 ≤ (Utf8.decode s pos).2 := by
  by_cases ha : (s[pos]'h).toNat < 128
  · rw [decode_ascii s pos h ha]
    exact Nat.le_refl _
  · exact (decode_high s pos h (by omega)).2

theorem checkFrom_end (s : ByteArray) (b pos : Nat) (h : ¬ pos < s.size) : checkFrom s b pos = (0, 0) := by
  cases b with
  | zero => rfl
  | succ b => simp [checkFrom, h]

/-- topic.Levels from place pos on, the level having begun at frm. -/
def levelsFrom (s : ByteArray) : Nat → Nat → Nat → List ByteArray
  | 0, _, frm => [s.extract frm s.size]
  | fuel + 1, pos, frm =>
    if pos < s.size then
      if (Utf8.decode s pos).1 = 47 then s.extract frm pos :: levelsFrom s fuel (pos + (Utf8.decode s pos).2) (pos + 1)
      else levelsFrom s fuel (pos + (Utf8.decode s pos).2) frm
    else [s.extract frm s.size]
def levelsS (s : ByteArray) : List ByteArray := levelsFrom s s.size 0 0

theorem levelsFrom_end (s : ByteArray) (b pos frm : Nat) (h : ¬ pos < s.size) : levelsFrom s b pos frm = [s.extract frm s.size] := by
  cases b with
  | zero => rfl
  | succ b => simp [levelsFrom, h]
end Go.Proofs.YtjeafniglnnkhaaGreatDoor
