/- Plain laws: the levels of a text, joined, are the text. -/
import Derived.Test.YtjeafniglnnkhaaGreatDoorHS2
namespace Go.Proofs.YtjeafniglnnkhaaGreatDoor
open Go

theorem join_cons2 (x y : List UInt8) (r : List (List UInt8)) : Lib.join (x :: y :: r) [47] = x ++ 47 :: Lib.join (y :: r) [47] := by
  rw [Lib.join_cons, Lib.join_cons]
  simp [Lib.joinTail]

theorem joinM_cons2 (x y : ByteArray) (r : List ByteArray) : Lib.join ((x :: y :: r).map (·.data.toList)) [47] = x.data.toList ++ 47 :: Lib.join ((y :: r).map (·.data.toList)) [47] := join_cons2 _ _ _

theorem levelsFrom_ne (s : ByteArray) : ∀ b pos frm, levelsFrom s b pos frm ≠ []
  | 0, _, _ => by simp [levelsFrom]
  | b + 1, pos, frm => by
    unfold levelsFrom
    split
    · split
      · simp
      · exact levelsFrom_ne s b _ _
    · simp

theorem extract_list (s : ByteArray) (a e : Nat) : (s.extract a e).data.toList = (s.data.toList.drop a).take (e - a) := by
  rw [ByteArray.data_extract, Array.toList_extract]

theorem slash_at (s : ByteArray) (pos : Nat) (h : pos < s.size) (hc : (Utf8.decode s pos).1 = 47) : (Utf8.decode s pos).2 = 1 ∧ s.data.toList.drop pos = 47 :: s.data.toList.drop (pos + 1) := by
  have h' : pos < s.data.toList.length := by simpa using h
  by_cases ha : (s[pos]'h).toNat < 128
  · rw [decode_ascii s pos h ha] at hc ⊢
    refine ⟨rfl, ?_⟩
    rw [List.drop_eq_getElem_cons h']
    congr 1
    have : (s[pos]'h) = 47 := UInt8.toNat_inj.1 hc
    exact this
  · have := decode_high s pos h (by omega)
    omega

theorem join_levelsFrom (s : ByteArray) : ∀ (b pos frm : Nat), s.size ≤ pos + b → frm ≤ pos → frm ≤ s.size → Lib.join ((levelsFrom s b pos frm).map (·.data.toList)) [47] = s.data.toList.drop frm
  | 0, pos, frm, hb, h1, h2 => by
    simp only [levelsFrom, List.map_cons, List.map_nil, Lib.join_one, extract_list]
    rw [List.take_of_length_le]
    simp
  | b + 1, pos, frm, hb, h1, h2 => by
    unfold levelsFrom
    split
    · rename_i hp
      have hw := width_pos s pos hp
      split
      · rename_i hc
        obtain ⟨hw1, hd⟩ := slash_at s pos hp hc
        have ih := join_levelsFrom s b (pos + (Utf8.decode s pos).2) (pos + 1) (by omega) (by omega) (by omega)
        obtain ⟨y, r, hyr⟩ : ∃ y r, levelsFrom s b (pos + (Utf8.decode s pos).2) (pos + 1) = y :: r := by
          cases hl : levelsFrom s b (pos + (Utf8.decode s pos).2) (pos + 1) with
          | nil => exact absurd hl (levelsFrom_ne s _ _ _)
          | cons y r => exact ⟨y, r, rfl⟩
        rw [hyr] at ih ⊢
        rw [joinM_cons2, ih, extract_list]
        have h3 : s.data.toList.drop pos = (s.data.toList.drop frm).drop (pos - frm) := by rw [List.drop_drop]; congr 1; omega
        rw [← hd, h3, List.take_append_drop]
      · exact join_levelsFrom s b _ frm (by omega) (by omega) h2
    · rename_i hp
      simp only [List.map_cons, List.map_nil, Lib.join_one, extract_list]
      rw [List.take_of_length_le]
      simp

theorem join_levels (s : ByteArray) : Lib.join ((levelsS s).map (·.data.toList)) [47] = s.data.toList := by
  exact join_levelsFrom s s.size 0 0 (by omega) (by omega) (by omega)

theorem levels_inj {a b : ByteArray} (h : levelsS a = levelsS b) : a = b := by
  have ha := join_levels a
  rw [h, join_levels b] at ha
  cases a; cases b
  simp at ha
  rw [ha]

theorem shared_inner_size {s a g x : ByteArray} {rest : List ByteArray} (h : levelsS s = a :: g :: x :: rest) : (joinS (x :: rest)).size ≤ s.size ∧ g.size ≤ s.size := by
  have := join_levels s
  rw [h, joinM_cons2, joinM_cons2] at this
  have hl := congrArg List.length this
  simp at hl
  constructor
  · unfold joinS
    show (Lib.join _ _).toArray.size ≤ _
    simp
    omega
  · have : g.data.size = g.size := rfl
    omega
end Go.Proofs.YtjeafniglnnkhaaGreatDoor
