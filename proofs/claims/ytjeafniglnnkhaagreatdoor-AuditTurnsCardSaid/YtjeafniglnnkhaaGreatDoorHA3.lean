/- Walks: topic.text, cmp.Compare, slices.Compare, topic.Compare. -/
import Derived.Test.YtjeafniglnnkhaaGreatDoorHA2
import Derived.Test.YtjeafniglnnkhaaGreatDoorHS2
namespace Go.Proofs.YtjeafniglnnkhaaGreatDoor
open Go.RowKit

set_option maxHeartbeats 400000 in
theorem text_any (s : ByteArray) (w : World) :
    Calls Tryz.prog 66 #[.string s] w fun e w' => e = .returned (.int .i64 (textS s)) ∧ Below w.heap.size w w' := by
  by_cases h0 : s.toList = []
  · have e : textS s = 50 := by simp [textS, h0]
    have H := Lib.hid e
    have h0' : s.toList.isEmpty = true := by simp [h0]
    clear e h0
    go_enter Tryz.func66, Tryz.ntmps66
    go_wp2
    go_ret
    exact ⟨by rw [H.out]; rfl, Below.refl _ _⟩
  · by_cases h1 : (checkS s).2 = 0
    · have e : textS s = 0 := by simp [textS, h0, h1]
      have H := Lib.hid e
      have h0' : s.toList.isEmpty = false := by simpa using h0
      have h1' : ((checkS s).2 != 0) = false := by simp [h1]
      clear e h1
      go_enter Tryz.func66, Tryz.ntmps66
      go_wp2_with (go_at_call 91; refine (check_any _ _).mono ?_; rintro e w' ⟨rfl, hb⟩)
      go_ret
      exact ⟨by rw [H.out]; rfl, hb⟩
    · have e : textS s = 51 := by simp [textS, h0, h1]
      have H := Lib.hid e
      have h0' : s.toList.isEmpty = false := by simpa using h0
      have h1' : ((checkS s).2 != 0) = true := by simp [h1]
      clear e h1
      go_enter Tryz.func66, Tryz.ntmps66
      go_wp2_with (go_at_call 91; refine (check_any _ _).mono ?_; rintro e w' ⟨rfl, hb⟩)
      go_ret
      exact ⟨by rw [H.out]; rfl, hb⟩

set_option maxHeartbeats 400000 in
theorem cmp_any (a b : ByteArray) (w : World) :
    Calls Tryz.prog 69 #[.string a, .string b] w fun e w' => e = .returned (.int .i64 (cmpS a b)) ∧ w = w' := by
  go_enter Tryz.func69, Tryz.ntmps69
  go_wp2
  all_goals (go_ret; refine ⟨?_, rfl⟩)
  · have h : Op.bytesLess a.toList b.toList = true := by assumption
    simp [cmpS, h]
  · have h : Op.bytesLess a.toList b.toList = false := by assumption
    have h3 : (a.toList == b.toList) = false := by
      have h2 : (!(a.toList == b.toList)) = true := by assumption
      simpa using h2
    simp [cmpS, h, h3]
  · have h : Op.bytesLess a.toList b.toList = false := by assumption
    have h3 : (a.toList == b.toList) = true := by
      have h2 : (!(a.toList == b.toList)) = false := by assumption
      simpa using h2
    simp [cmpS, h, h3]

theorem cmpL_step (l1 l2 : List ByteArray) (k : Nat) (h1 : k < l1.length) (h2 : k < l2.length) : cmpL (l1.drop k) (l2.drop k) = if cmpS l1[k] l2[k] = 0 then cmpL (l1.drop (k + 1)) (l2.drop (k + 1)) else cmpS l1[k] l2[k] := by
  rw [List.drop_eq_getElem_cons h1, List.drop_eq_getElem_cons h2, cmpL]
theorem cmpL_long (l1 l2 : List ByteArray) (k : Nat) (h1 : k < l1.length) (h2 : k = l2.length) : cmpL (l1.drop k) (l2.drop k) = 1 := by
  rw [List.drop_of_length_le (l := l2) (by omega), List.drop_eq_getElem_cons h1, cmpL]
theorem cmpL_end (l1 l2 : List ByteArray) (k : Nat) (h1 : k = l1.length) (h2 : k ≤ l2.length) : cmpL (l1.drop k) (l2.drop k) = if l1.length < l2.length then -1 else 0 := by
  subst h1
  rw [List.drop_length]
  split
  · rename_i h; rw [List.drop_eq_getElem_cons h, cmpL]
  · rename_i h; rw [List.drop_of_length_le (by omega), cmpL]

set_option maxHeartbeats 400000 in
theorem compares_any (v1 v2 : Value) (l1 l2 : List ByteArray) (B1 B2 : Nat) (w : World) (h1 : IsStrs w B1 v1 l1) (h2 : IsStrs w B2 v2 l2) (hl1 : l1.length ≤ 10000000) (hl2 : l2.length ≤ 10000000) :
    Calls Tryz.prog 40 #[v1, v2] w fun e w' => e = .returned (.int .i64 (cmpL l1 l2)) ∧ w = w' := by
  obtain ⟨A1, c1, rfl, hc1, hA1⟩ := h1
  obtain ⟨A2, c2, rfl, hc2, hA2⟩ := h2
  go_enter Tryz.func40, Tryz.ntmps40
  go_wp2
  go_loop [11] (fun i => ∃ k : Nat, k ≤ l1.length ∧ k ≤ l2.length ∧ i = .int .i64 k ∧ Hid (cmpL (l1.drop k) (l2.drop k) = cmpL l1 l2)) (fun i => l1.length - (intOf i).toNat)
  case atStart => exact ⟨0, by omega, by omega, rfl, rfl⟩
  case round =>
    obtain ⟨k, hk1, hk2, rfl, HC⟩ := hrel
    by_cases hlt : k < l1.length
    · obtain ⟨b1, o1, rfl, _, hcell1⟩ := hA1 (by omega)
      have g1 := hcell1 k hlt
      by_cases hlt2 : k < l2.length
      · obtain ⟨b2, o2, rfl, _, hcell2⟩ := hA2 (by omega)
        have g2 := hcell2 k hlt2
        clear hcell1 hcell2 hA1 hA2
        by_cases h0 : cmpS l1[k] l2[k] = 0
        · have e0 : (cmpS l1[k] l2[k] != 0) = false := by simp [h0]
          have H0 := Lib.hid h0
          clear h0
          go_wp2_with (go_at_call 69; refine (cmp_any _ _ _).mono ?_; rintro e w' ⟨rfl, rfl⟩)
          go_round
          case rel => exact ⟨k + 1, by omega, by omega, by go_num, by have := HC.out; rw [cmpL_step l1 l2 k hlt hlt2, if_pos H0.out] at this; exact this⟩
          case measure => simp [intOf]; omega
        · have e0 : (cmpS l1[k] l2[k] != 0) = true := by simp [h0]
          have H0 := Lib.hid h0
          clear h0
          go_wp2_with (go_at_call 69; refine (cmp_any _ _ _).mono ?_; rintro e w' ⟨rfl, rfl⟩)
          go_ret
          exact ⟨by rw [← HC.out, cmpL_step l1 l2 k hlt hlt2, if_neg H0.out]; rfl, rfl⟩
      · clear hA1 hA2 hcell1
        go_wp2
        go_ret
        exact ⟨by rw [← HC.out, cmpL_long l1 l2 k hlt (by omega)]; rfl, rfl⟩
    · have hk : k = l1.length := by omega
      clear hA1 hA2
      have HC2 := HC.out.symm.trans (cmpL_end l1 l2 k hk hk2)
      have HK := Lib.hid hk
      have H3 := Lib.hid HC2
      clear hk HC2
      by_cases hll : l1.length < l2.length
      · go_wp2
        go_ret
        exact ⟨by rw [H3.out, if_pos hll]; rfl, rfl⟩
      · go_wp2
        go_ret
        exact ⟨by rw [H3.out, if_neg hll]; rfl, rfl⟩

theorem levels_len (s : ByteArray) : ∀ (b pos frm : Nat), (levelsFrom s b pos frm).length ≤ b + 1
  | 0, _, _ => by simp [levelsFrom]
  | b + 1, pos, frm => by
    unfold levelsFrom
    split
    · split
      · have := levels_len s b (pos + (Utf8.decode s pos).2) (pos + 1); simp; omega
      · have := levels_len s b (pos + (Utf8.decode s pos).2) frm; omega
    · simp
theorem levelsS_len (s : ByteArray) : (levelsS s).length ≤ s.size + 1 := levels_len s _ _ _

set_option maxHeartbeats 400000 in
theorem compare_lay (a b : ByteArray) (w : World) (ha : a.size ≤ 1000000) (hb : b.size ≤ 1000000) :
    Calls Tryz.prog 10 #[.string a, .string b] w fun e w' => e = .returned (.int .i64 (compareS a b)) ∧ Lay w w' := by
  have l1 := levelsS_len a
  have l2 := levelsS_len b
  go_enter Tryz.func10, Tryz.ntmps10
  go_wp2_with fail
  refine (levels_lay a _ ha).mono ?_
  rintro e w1 ⟨v1, rfl, hown1, hb1⟩
  go_wp2_with fail
  refine (levels_lay b _ hb).mono ?_
  rintro e w2 ⟨v2, rfl, hown2, hb2⟩
  go_wp2_with fail
  refine (compares_any v1 v2 (levelsS a) (levelsS b) _ _ w2 ((IsStrs.of_owns hown1).below hb2.1) (IsStrs.of_owns hown2) (by omega) (by omega)).mono ?_
  rintro e w3 ⟨rfl, rfl⟩
  go_wp2
  go_ret
  exact ⟨rfl, hb1.trans hb2⟩

theorem compare_any (a b : ByteArray) (w : World) (ha : a.size ≤ 1000000) (hb : b.size ≤ 1000000) :
    Calls Tryz.prog 10 #[.string a, .string b] w fun e w' => e = .returned (.int .i64 (compareS a b)) ∧ Below w.heap.size w w' :=
  (compare_lay a b w ha hb).mono fun _ _ ⟨he, hb⟩ => ⟨he, hb.1⟩
end Go.Proofs.YtjeafniglnnkhaaGreatDoor
