/- Walks: topic.Join, topic.goes, topic.Shared, topic.Match. -/
import Derived.Test.YtjeafniglnnkhaaGreatDoorHA5
import Derived.Test.YtjeafniglnnkhaaGreatDoorHS3
namespace Go.Proofs.YtjeafniglnnkhaaGreatDoor
open Go.RowKit

set_option maxHeartbeats 400000 in
theorem join_any (v : Value) (l : List ByteArray) (w : World) (h : IsStrs w w.heap.size v l) (hl : l.length ≤ 10000000) (hj : (joinS l).size ≤ 1000000) :
    Calls Tryz.prog 37 #[v] w fun e w' => e = .returned (.string (joinS l)) ∧ Below w.heap.size w w' := by
  obtain ⟨A, c, rfl, hc, hA⟩ := h
  have hj' : (Lib.join (l.map (·.data.toList)) [47]).length ≤ 1000000 := by
    have : (joinS l).size = (Lib.join (l.map (·.data.toList)) [47]).length := by
      show (Lib.join _ _).toArray.size = _
      simp
    omega
  by_cases h0 : l.length = 0
  · have hn : l = [] := List.eq_nil_of_length_eq_zero h0
    subst hn
    go_enter Tryz.func37, Tryz.ntmps37
    go_wp2_with fail
    refine (Tryz.strings_Join_none _ _ _ _).mono ?_
    rintro e w' ⟨rfl, hw⟩
    rw [hw]
    clear hw w'
    go_wp2
    go_ret
    exact ⟨rfl, Below.refl _ _⟩
  · obtain ⟨b, o, rfl, hb, hcell⟩ := hA (by omega)
    have HC := Lib.hid (Tryz.strings_Join b o c l ⟨#[47]⟩ w (fun j x hx => by
      obtain ⟨hlt, rfl⟩ := List.getElem?_eq_some_iff.1 hx
      exact hcell j hlt) hb (by omega) hc (by
        show (Lib.join _ [47]).length ≤ _
        omega))
    clear hcell hA
    go_enter Tryz.func37, Tryz.ntmps37
    go_wp2_with fail
    refine HC.out.mono ?_
    rintro e w' ⟨rfl, hb'⟩
    go_wp2
    go_ret
    exact ⟨rfl, hb'⟩
end Go.Proofs.YtjeafniglnnkhaaGreatDoor
