/- Walks: topic.Shared. -/
import Derived.Test.YtjeafniglnnkhaaGreatDoorHA7
namespace Go.Proofs.YtjeafniglnnkhaaGreatDoor
open Go.RowKit

def sharedV : Option (ByteArray × ByteArray) → Value
  | some (g, i) => .tuple #[.string g, .string i, .bool true]
  | none => .tuple #[.string ⟨#[]⟩, .string ⟨#[]⟩, .bool false]

def share : List UInt8 := [36, 115, 104, 97, 114, 101]

theorem shared_none {s : ByteArray} (h : sharedS s = none) : sharedV (sharedS s) = .tuple #[.string ⟨#[]⟩, .string ⟨#[]⟩, .bool false] := by rw [h]; rfl

set_option maxRecDepth 100000 in
set_option maxHeartbeats 1000000 in
theorem shared_few (s : ByteArray) (w : World) (hs : s.size ≤ 1000000) (hlt : (levelsS s).length < 3) :
    Calls Tryz.prog 8 #[.string s] w fun e w' => e = .returned (sharedV (sharedS s)) ∧ Below w.heap.size w w' := by
  have H := Lib.hid (shared_none (s := s) (by
    unfold sharedS
    match levelsS s, hlt with
    | [], _ => rfl
    | [_], _ => rfl
    | [_, _], _ => rfl
    | _ :: _ :: _ :: _, h => simp at h; omega))
  have e3 : decide (((levelsS s).length : Int) < 3) = true := by simp; omega
  go_enter Tryz.func8, Tryz.ntmps8
  go_wp2_with fail
  refine (levels_any s _ hs).mono ?_
  rintro e w1 ⟨v1, rfl, hown, hb⟩
  obtain ⟨A, c, rfl, hc, hA⟩ := IsStrs.of_owns hown
  clear hA hown
  go_wp2
  go_ret3
  exact ⟨H.out.symm ▸ rfl, hb⟩

set_option maxRecDepth 100000 in
set_option maxHeartbeats 2000000 in
theorem shared_many (s : ByteArray) (w : World) (hs : s.size ≤ 1000000) (a g x : ByteArray) (rest : List ByteArray) (hL : levelsS s = a :: g :: x :: rest) :
    Calls Tryz.prog 8 #[.string s] w fun e w' => e = .returned (sharedV (sharedS s)) ∧ Below w.heap.size w w' := by
  have hlen := levelsS_len s
  rw [hL] at hlen
  simp only [List.length_cons] at hlen
  obtain ⟨hin, hg⟩ := shared_inner_size hL
  have HC := fun W => Lib.hid (show Calls Tryz.prog 35 #[.string s] W fun e w' => ∃ v, e = .returned v ∧ IsStrs w' w'.heap.size v (a :: g :: x :: rest) ∧ Below W.heap.size W w' from (levels_any s W hs).mono fun e w' ⟨v, he, ho, hb⟩ => ⟨v, he, by rw [hL] at ho; exact IsStrs.of_owns ho, hb⟩)
  have e3 : decide ((((rest.length + 1 + 1 + 1 : Nat) : Nat) : Int) < 3) = false := by simp; omega
  have e3' : decide ((rest.length : Int) + 1 + 1 + 1 < 3) = false := by simp; omega
  have hdef := show sharedS s = (if a.toList = [36, 115, 104, 97, 114, 101] ∧ topicS g = 0 ∧ filterS (joinS (x :: rest)) = 0 ∧ filterS s = 0 then some (g, joinS (x :: rest)) else none) by unfold sharedS; rw [hL]
  obtain ⟨i0, hi, hz0, hz1, hz2⟩ := info_parts info9
  clear hL hz0 hz2
  by_cases h1 : a.toList = [36, 115, 104, 97, 114, 101]
  · have e1 : (a.toList == [36, 115, 104, 97, 114, 101]) = true := by simp [h1]
    by_cases h2 : topicS g = 0
    · have e2 : (topicS g != 0) = false := by simp [h2]
      by_cases h3 : filterS (joinS (x :: rest)) = 0
      · have e3 : (filterS (joinS (x :: rest)) != 0) = false := by simp [h3]
        by_cases h4 : filterS s = 0
        · have e4 : (filterS s != 0) = false := by simp [h4]
          have H := Lib.hid (show sharedV (sharedS s) = .tuple #[.string g, .string (joinS (x :: rest)), .bool true] by rw [hdef, if_pos ⟨h1, h2, h3, h4⟩]; rfl)
          clear h1 h2 h3 h4 hdef
          go_enter Tryz.func8, Tryz.ntmps8
          go_wp2_with fail
          refine (HC _).out.mono ?_
          rintro e w1 ⟨v1, rfl, hstr, hb1⟩
          have HS1 := Lib.hid hstr
          obtain ⟨A, c, rfl, hc, hA⟩ := hstr
          obtain ⟨b, o, rfl, hB, hcell⟩ := hA (by simp)
          have g0 : w1.cell? ⟨b, o, none⟩ = some (.string a) := hcell 0 (by simp)
          have g1 : w1.cell? ⟨b, o + 1, none⟩ = some (.string g) := hcell 1 (by simp)
          clear hcell hA
          go_wp2_with fail
          refine (topic_any g _ (by omega)).mono ?_
          rintro e w2 ⟨rfl, hb2⟩
          have hb12 := hb1.trans (hb2.mono hb1.size)
          have g2 : w2.cell? ⟨b, o + 1, none⟩ = some (.string g) := (hb2.cell (p := ⟨b, o + 1, none⟩) hB).trans g1
          obtain ⟨A2, hs2, hd2⟩ := (HS1.out.below hb2).cut Tryz.underlying78 hi hz1 2 (by omega) (by simp; omega)
          simp at hs2 hd2
          clear HS1
          go_wp2_with fail
          refine (join_any _ (x :: rest) w2 (hd2.mono hb2.size) (by simp; omega) (by omega)).mono ?_
          rintro e w3 ⟨rfl, hb3⟩
          have hb13 := hb12.trans (hb3.mono hb12.size)
          have g3 : w3.cell? ⟨b, o + 1, none⟩ = some (.string g) := (hb3.cell (p := ⟨b, o + 1, none⟩) (Nat.lt_of_lt_of_le hB hb2.size)).trans g2
          clear hs2 hd2
          go_wp2_with fail
          refine (filter_any _ w3 (by omega)).mono ?_
          rintro e w4 ⟨rfl, hb4⟩
          have hb14 := hb13.trans (hb4.mono hb13.size)
          have g4 : w4.cell? ⟨b, o + 1, none⟩ = some (.string g) := (hb4.cell (p := ⟨b, o + 1, none⟩) (Nat.lt_of_lt_of_le hB (Nat.le_trans hb2.size hb3.size))).trans g3
          go_wp2_with fail
          refine (filter_any _ w4 (by omega)).mono ?_
          rintro e w5 ⟨rfl, hb5⟩
          have hb15 := hb14.trans (hb5.mono hb14.size)
          have g5 : w5.cell? ⟨b, o + 1, none⟩ = some (.string g) := (hb5.cell (p := ⟨b, o + 1, none⟩) (Nat.lt_of_lt_of_le hB (Nat.le_trans hb2.size (Nat.le_trans hb3.size hb4.size)))).trans g4
          go_wp2
          go_ret3
          exact ⟨H.out.symm ▸ rfl, hb15⟩
        · have e4 : (filterS s != 0) = true := by simp [h4]
          have H := Lib.hid (shared_none (s := s) (by rw [hdef, if_neg (fun h => h4 h.2.2.2)]))
          clear h1 h2 h3 h4 hdef
          go_enter Tryz.func8, Tryz.ntmps8
          go_wp2_with fail
          refine (HC _).out.mono ?_
          rintro e w1 ⟨v1, rfl, hstr, hb1⟩
          have HS1 := Lib.hid hstr
          obtain ⟨A, c, rfl, hc, hA⟩ := hstr
          obtain ⟨b, o, rfl, hB, hcell⟩ := hA (by simp)
          have g0 : w1.cell? ⟨b, o, none⟩ = some (.string a) := hcell 0 (by simp)
          have g1 : w1.cell? ⟨b, o + 1, none⟩ = some (.string g) := hcell 1 (by simp)
          clear hcell hA
          go_wp2_with fail
          refine (topic_any g _ (by omega)).mono ?_
          rintro e w2 ⟨rfl, hb2⟩
          have hb12 := hb1.trans (hb2.mono hb1.size)
          have g2 : w2.cell? ⟨b, o + 1, none⟩ = some (.string g) := (hb2.cell (p := ⟨b, o + 1, none⟩) hB).trans g1
          obtain ⟨A2, hs2, hd2⟩ := (HS1.out.below hb2).cut Tryz.underlying78 hi hz1 2 (by omega) (by simp; omega)
          simp at hs2 hd2
          clear HS1
          go_wp2_with fail
          refine (join_any _ (x :: rest) w2 (hd2.mono hb2.size) (by simp; omega) (by omega)).mono ?_
          rintro e w3 ⟨rfl, hb3⟩
          have hb13 := hb12.trans (hb3.mono hb12.size)
          have g3 : w3.cell? ⟨b, o + 1, none⟩ = some (.string g) := (hb3.cell (p := ⟨b, o + 1, none⟩) (Nat.lt_of_lt_of_le hB hb2.size)).trans g2
          clear hs2 hd2
          go_wp2_with fail
          refine (filter_any _ w3 (by omega)).mono ?_
          rintro e w4 ⟨rfl, hb4⟩
          have hb14 := hb13.trans (hb4.mono hb13.size)
          have g4 : w4.cell? ⟨b, o + 1, none⟩ = some (.string g) := (hb4.cell (p := ⟨b, o + 1, none⟩) (Nat.lt_of_lt_of_le hB (Nat.le_trans hb2.size hb3.size))).trans g3
          go_wp2_with fail
          refine (filter_any _ w4 (by omega)).mono ?_
          rintro e w5 ⟨rfl, hb5⟩
          have hb15 := hb14.trans (hb5.mono hb14.size)
          have g5 : w5.cell? ⟨b, o + 1, none⟩ = some (.string g) := (hb5.cell (p := ⟨b, o + 1, none⟩) (Nat.lt_of_lt_of_le hB (Nat.le_trans hb2.size (Nat.le_trans hb3.size hb4.size)))).trans g4
          go_wp2
          go_ret3
          exact ⟨H.out.symm ▸ rfl, hb15⟩
      · have e3 : (filterS (joinS (x :: rest)) != 0) = true := by simp [h3]
        have H := Lib.hid (shared_none (s := s) (by rw [hdef, if_neg (fun h => h3 h.2.2.1)]))
        clear h1 h2 h3 hdef
        go_enter Tryz.func8, Tryz.ntmps8
        go_wp2_with fail
        refine (HC _).out.mono ?_
        rintro e w1 ⟨v1, rfl, hstr, hb1⟩
        have HS1 := Lib.hid hstr
        obtain ⟨A, c, rfl, hc, hA⟩ := hstr
        obtain ⟨b, o, rfl, hB, hcell⟩ := hA (by simp)
        have g0 : w1.cell? ⟨b, o, none⟩ = some (.string a) := hcell 0 (by simp)
        have g1 : w1.cell? ⟨b, o + 1, none⟩ = some (.string g) := hcell 1 (by simp)
        clear hcell hA
        go_wp2_with fail
        refine (topic_any g _ (by omega)).mono ?_
        rintro e w2 ⟨rfl, hb2⟩
        have hb12 := hb1.trans (hb2.mono hb1.size)
        have g2 : w2.cell? ⟨b, o + 1, none⟩ = some (.string g) := (hb2.cell (p := ⟨b, o + 1, none⟩) hB).trans g1
        obtain ⟨A2, hs2, hd2⟩ := (HS1.out.below hb2).cut Tryz.underlying78 hi hz1 2 (by omega) (by simp; omega)
        simp at hs2 hd2
        clear HS1
        go_wp2_with fail
        refine (join_any _ (x :: rest) w2 (hd2.mono hb2.size) (by simp; omega) (by omega)).mono ?_
        rintro e w3 ⟨rfl, hb3⟩
        have hb13 := hb12.trans (hb3.mono hb12.size)
        have g3 : w3.cell? ⟨b, o + 1, none⟩ = some (.string g) := (hb3.cell (p := ⟨b, o + 1, none⟩) (Nat.lt_of_lt_of_le hB hb2.size)).trans g2
        clear hs2 hd2
        go_wp2_with fail
        refine (filter_any _ w3 (by omega)).mono ?_
        rintro e w4 ⟨rfl, hb4⟩
        have hb14 := hb13.trans (hb4.mono hb13.size)
        have g4 : w4.cell? ⟨b, o + 1, none⟩ = some (.string g) := (hb4.cell (p := ⟨b, o + 1, none⟩) (Nat.lt_of_lt_of_le hB (Nat.le_trans hb2.size hb3.size))).trans g3
        go_wp2
        go_ret3
        exact ⟨H.out.symm ▸ rfl, hb14⟩
    · have e2 : (topicS g != 0) = true := by simp [h2]
      have H := Lib.hid (shared_none (s := s) (by rw [hdef, if_neg (fun h => h2 h.2.1)]))
      clear h1 h2 hdef
      go_enter Tryz.func8, Tryz.ntmps8
      go_wp2_with fail
      refine (HC _).out.mono ?_
      rintro e w1 ⟨v1, rfl, hstr, hb1⟩
      have HS1 := Lib.hid hstr
      obtain ⟨A, c, rfl, hc, hA⟩ := hstr
      obtain ⟨b, o, rfl, hB, hcell⟩ := hA (by simp)
      have g0 : w1.cell? ⟨b, o, none⟩ = some (.string a) := hcell 0 (by simp)
      have g1 : w1.cell? ⟨b, o + 1, none⟩ = some (.string g) := hcell 1 (by simp)
      clear hcell hA
      go_wp2_with fail
      refine (topic_any g _ (by omega)).mono ?_
      rintro e w2 ⟨rfl, hb2⟩
      have hb12 := hb1.trans (hb2.mono hb1.size)
      have g2 : w2.cell? ⟨b, o + 1, none⟩ = some (.string g) := (hb2.cell (p := ⟨b, o + 1, none⟩) hB).trans g1
      go_wp2
      go_ret3
      exact ⟨H.out.symm ▸ rfl, hb12⟩
  · have e1 : (a.toList == [36, 115, 104, 97, 114, 101]) = false := by simp [h1]
    have H := Lib.hid (shared_none (s := s) (by rw [hdef, if_neg (fun h => h1 h.1)]))
    clear h1 hdef
    go_enter Tryz.func8, Tryz.ntmps8
    go_wp2_with fail
    refine (HC _).out.mono ?_
    rintro e w1 ⟨v1, rfl, hstr, hb1⟩
    have HS1 := Lib.hid hstr
    obtain ⟨A, c, rfl, hc, hA⟩ := hstr
    obtain ⟨b, o, rfl, hB, hcell⟩ := hA (by simp)
    have g0 : w1.cell? ⟨b, o, none⟩ = some (.string a) := hcell 0 (by simp)
    have g1 : w1.cell? ⟨b, o + 1, none⟩ = some (.string g) := hcell 1 (by simp)
    clear hcell hA
    go_wp2
    go_ret3
    exact ⟨H.out.symm ▸ rfl, hb1⟩

theorem shared_any (s : ByteArray) (w : World) (hs : s.size ≤ 1000000) :
    Calls Tryz.prog 8 #[.string s] w fun e w' => e = .returned (sharedV (sharedS s)) ∧ Below w.heap.size w w' := by
  match hL : levelsS s with
  | [] => exact shared_few s w hs (by rw [hL]; decide)
  | [_] => exact shared_few s w hs (by rw [hL]; simp)
  | [_, _] => exact shared_few s w hs (by rw [hL]; simp)
  | a :: g :: x :: rest => exact shared_many s w hs a g x rest hL
end Go.Proofs.YtjeafniglnnkhaaGreatDoor
