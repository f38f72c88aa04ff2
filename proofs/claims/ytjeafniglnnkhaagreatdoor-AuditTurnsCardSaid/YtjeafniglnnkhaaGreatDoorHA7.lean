/- Walk: topic.goes. -/
import Derived.Test.YtjeafniglnnkhaaGreatDoorHA6
namespace Go.Proofs.YtjeafniglnnkhaaGreatDoor
open Go.RowKit

theorem IsStrs.drewN {w : World} {B : Nat} {v : Value} {l : List ByteArray} (h : IsStrs w B v l) (n : Nat) : IsStrs (w.drewN n) B v l := h

set_option maxHeartbeats 1000000 in
theorem goes_any : ∀ (l1 l2 : List ByteArray) (v1 v2 : Value) (w : World) (B1 B2 : Nat), IsStrs w B1 v1 l1 → IsStrs w B2 v2 l2 → l1.length ≤ 10000000 → l2.length ≤ 10000000 →
    Calls Tryz.prog 39 #[v1, v2] w fun e w' => e = .returned (.bool (goesS l1 l2)) ∧ ∃ n, w' = w.drewN n
  | [], l2, v1, v2, w, B1, B2, h1, h2, hl1, hl2 => by
    obtain ⟨A1, c1, rfl, hc1, _⟩ := h1
    obtain ⟨A2, c2, rfl, hc2, _⟩ := h2
    have H := Lib.hid (show goesS [] l2 = ((l2.length : Int) == 0) by rw [goesS, Bool.eq_iff_iff]; cases l2 <;> simp <;> omega)
    go_enter Tryz.func39, Tryz.ntmps39
    go_wp2
    go_ret
    exact ⟨by rw [H.out]; rfl, 0, rfl⟩
  | f :: fs, l2, v1, v2, w, B1, B2, h1, h2, hl1, hl2 => by
    have hS1 := Lib.hid h1
    have hS2 := Lib.hid h2
    obtain ⟨A1, c1, rfl, hc1, hA1⟩ := h1
    obtain ⟨A2, c2, rfl, hc2, hA2⟩ := h2
    obtain ⟨b1, o1, rfl, hB1, hcell1⟩ := hA1 (by simp)
    have g1 : w.cell? ⟨b1, o1, none⟩ = some (.string f) := hcell1 0 (by simp)
    clear hA1 hcell1
    have e00 : (((fs.length : Int) + 1) == 0) = false := by simp; omega
    by_cases h35 : f.toList = [35]
    · have e35 : (f.toList == [35]) = true := by simp [h35]
      have H := Lib.hid (show goesS (f :: fs) l2 = true by simp [goesS, h35])
      clear h35 hA2
      go_enter Tryz.func39, Tryz.ntmps39
      go_wp2
      go_ret
      exact ⟨by rw [H.out]; rfl, 0, rfl⟩
    · have e35 : (f.toList == [35]) = false := by simpa using h35
      match l2, hl2, hS2, hc2, hA2 with
      | [], hl2, hS2, hc2, hA2 =>
        have H := Lib.hid (show goesS (f :: fs) [] = false by simp [goesS, h35])
        clear h35 hA2
        go_enter Tryz.func39, Tryz.ntmps39
        go_wp2
        go_quiet (fail)
        go_wp2
        go_ret
        exact ⟨by rw [H.out]; rfl, _, rfl⟩
      | x :: xs, hl2, hS2, hc2, hA2 =>
        obtain ⟨b2, o2, rfl, hB2, hcell2⟩ := hA2 (by simp)
        have g2 : w.cell? ⟨b2, o2, none⟩ = some (.string x) := hcell2 0 (by simp)
        clear hA2 hcell2
        have e0 : (((xs.length : Int) + 1) == 0) = false := by simp; omega
        obtain ⟨i0, hi, hz0, hz1, hz2⟩ := info_parts info9
        obtain ⟨A1, hs1, hd1⟩ := hS1.out.cut Tryz.underlying78 hi hz1 1 (by omega) (by simp; omega)
        obtain ⟨A2, hs2, hd2⟩ := hS2.out.cut Tryz.underlying78 hi hz1 1 (by omega) (by simp; omega)
        simp at hs1 hs2 hd1 hd2
        have hl3 : fs.length ≤ 10000000 := by simp at hl1; omega
        have hl4 : xs.length ≤ 10000000 := by simp at hl2; omega
        have IH := fun n => Lib.hid (goes_any fs xs _ _ (w.drewN n) B1 B2 hd1 hd2 hl3 hl4)
        by_cases h43 : f.toList = [43]
        · have e43 : (f.toList == [43]) = true := by simp [h43]
          have H := Lib.hid (show goesS (f :: fs) (x :: xs) = goesS fs xs by simp [goesS, h35, h43])
          clear h35 h43 hd1 hd2 hS1 hS2 hz0 hz1 hz2 hi
          go_enter Tryz.func39, Tryz.ntmps39
          go_wp2
          go_quiet (fail)
          go_wp2
          go_quiet ((go_at_call 39; exact quiet_add (IH _).out))
          go_wp2
          go_ret
          exact ⟨by rw [H.out]; rfl, _, World.drewN_drewN _ _ _⟩
        · have e43 : (f.toList == [43]) = false := by simp [h43]
          by_cases hx : f.toList = x.toList
          · have ex : (f.toList == x.toList) = true := by simp [hx]
            have H := Lib.hid (show goesS (f :: fs) (x :: xs) = goesS fs xs by simp [goesS, h35, ← hx])
            clear h35 h43 hx hd1 hd2 hS1 hS2 hz0 hz1 hz2 hi
            go_enter Tryz.func39, Tryz.ntmps39
            go_wp2
            go_quiet (fail)
            go_wp2
            go_quiet ((go_at_call 39; exact quiet_add (IH _).out))
            go_wp2
            go_ret
            exact ⟨by rw [H.out]; rfl, _, World.drewN_drewN _ _ _⟩
          · have ex : (f.toList == x.toList) = false := by simp [hx]
            have H := Lib.hid (show goesS (f :: fs) (x :: xs) = false by simp [goesS, h35, hx, h43])
            clear h35 h43 hx hd1 hd2 hS1 hS2 hz0 hz1 hz2 hi
            go_enter Tryz.func39, Tryz.ntmps39
            go_wp2
            go_quiet (fail)
            go_wp2
            go_ret
            exact ⟨by rw [H.out]; rfl, _, rfl⟩
end Go.Proofs.YtjeafniglnnkhaaGreatDoor
