/- Walks: found.note, found.window of a window with nothing. -/
import Derived.Test.YtjeafniglnnkhaaGreatDoorHW0
import Derived.OwnWalk
import Derived.Maps.OwnSet
import Derived.Maps.OwnOps
import Derived.Maps.RangeWalk
namespace Go.Proofs.YtjeafniglnnkhaaGreatDoor
open Go.RowKit Go.Maps

theorem law73 : Keyed Tryz.prog 73 := int_keyed Tryz.underlying73
noncomputable abbrev boolElem : Value → Option (DataW Unit × List MemPlace) := plainElem Tryz.prog 4

/-- The faults at a place: none, or one. -/
def FoundIs (D : DataW Unit) (o : Option Int) : Prop := IsMap D ∧ ∀ x : Int, has D (.int .i64 x) = (o == some x)

theorem FoundIs.empty : FoundIs (.map []) none := ⟨isMap_empty, fun _ => rfl⟩
theorem FoundIs.put {D : DataW Unit} {o : Option Int} (h : FoundIs D o) (e : Int) (ho : o = none ∨ o = some e) (d : DataW Unit) : FoundIs (D.put (.int .i64 e) d) (some e) := by
  refine ⟨h.1.put _ _, fun x => ?_⟩
  by_cases hx : x = e
  · subst hx
    rw [has_put_same h.1 (by trivial)]
    simp
  · have hne : (Lit.int .i64 x) ≠ .int .i64 e := fun h => hx (by injection h)
    rw [has_put_other hne, h.2 x]
    rcases ho with rfl | rfl
    · have : e ≠ x := fun h => hx h.symm
      simp [this]
    · rfl

theorem note_no (b : Nat) (er : Int) (w : World) : Calls Tryz.prog 47 #[.map (some b), .bool false, .int .i64 er] w fun e w' => e = .returned (.tuple #[]) ∧ w' = w := by
  go_enter Tryz.func47, Tryz.ntmps47
  go_wp2
  go_end0
  exact ⟨rfl, rfl⟩

theorem note_yes (b n : Nat) (er : Int) (D : DataW Unit) (w : World) (h : w.ownsMap Tryz.prog 73 boolElem b n D) (hn : n ≤ 1000000) (h0 : 0 ≤ er) (h1 : er ≤ 1000) :
    Calls Tryz.prog 47 #[.map (some b), .bool true, .int .i64 er] w fun e w' => e = .returned (.tuple #[]) ∧ w'.ownsMap Tryz.prog 73 boolElem b (n + 1) (D.put (.int .i64 er) (.lit (.bool true))) ∧ w.grownBy w' (some b) := by
  have hwf : (Lit.int .i64 er).wf = true := WalkArith.wf_i64 (by omega)
  go_enter Tryz.func47, Tryz.ntmps47
  go_wp2_with (first | (at_mapUpdate; refine wpList_mapUpdate_own _ rfl _ _ _ 99 rfl 73 4 law73 Tryz.underlying99 _ b n D rfl h (by unfold maxLen; omega) _ _ _ rfl rfl (keyOf_int_mk Tryz.underlying73 hwf) _ [] (plainElem_bool Tryz.underlying4 true) ?_; intro w5 hown5 hgrow5; go_frame))
  go_end0
  exact ⟨rfl, hown5, hgrow5⟩

/-- Block b is a place's found faults: none, or one. -/
def Found (w : World) (b : Nat) (o : Option Int) (N : Nat) : Prop := ∃ n D, n ≤ N ∧ w.ownsMap Tryz.prog 73 boolElem b n D ∧ FoundIs D o

theorem Found.kept {w w' : World} {b N : Nat} {o : Option Int} {row : Option Nat} (h : Found w b o N) (hg : w.grownBy w' row) (hne : some b ≠ row) : Found w' b o N := by
  obtain ⟨n, D, h1, h2, h3⟩ := h
  exact ⟨n, D, h1, h2.kept hg hne, h3⟩
theorem Found.below {w w' : World} {b N : Nat} {o : Option Int} (h : Found w b o N) (hb : Below w.heap.size w w') : Found w' b o N :=
  h.kept (row := none) ⟨hb.os, hb.tape, hb.output, hb.size, fun k hk _ => hb.block k hk⟩ (by simp)
theorem Found.alloc {w : World} {b N : Nat} {o : Option Int} (h : Found w b o N) (ob : Obj) : Found (w.alloc ob) b o N := by
  obtain ⟨n, D, h1, h2, h3⟩ := h
  exact ⟨n, D, h1, h2.alloc ob, h3⟩
theorem Found.mono {w : World} {b N N' : Nat} {o : Option Int} (h : Found w b o N) (hN : N ≤ N') : Found w b o N' := by
  obtain ⟨n, D, h1, h2, h3⟩ := h
  exact ⟨n, D, by omega, h2, h3⟩
theorem Found.lt {w : World} {b N : Nat} {o : Option Int} (h : Found w b o N) : b < w.heap.size := by
  obtain ⟨n, D, h1, h2, h3⟩ := h
  exact h2.lt
theorem Found.made (w : World) : Found (w.alloc (.map #[] 0)) w.heap.size none 0 := ⟨0, _, Nat.le_refl _, World.ownsMap_made w _ _ _, FoundIs.empty⟩

theorem note_any (b N : Nat) (er : Int) (o : Option Int) (is : Bool) (w : World) (h : Found w b o N) (hi : is = true → o = none ∨ o = some er) (hN : N ≤ 1000000) (h0 : 0 ≤ er) (h1 : er ≤ 1000) :
    Calls Tryz.prog 47 #[.map (some b), .bool is, .int .i64 er] w fun e w' => e = .returned (.tuple #[]) ∧ Found w' b (if is then some er else o) (N + 1) ∧ w.grownBy w' (some b) := by
  cases is with
  | false => exact (note_no b er w).mono fun e w' ⟨he, hw⟩ => ⟨he, by rw [hw]; exact h.mono (by omega), by rw [hw]; exact ⟨rfl, rfl, rfl, Nat.le_refl _, fun _ _ _ => rfl⟩⟩
  | true =>
    obtain ⟨n, D, hn, hm, hF⟩ := h
    exact (note_yes b n er D w hm (by omega) h0 h1).mono fun e w' ⟨he, hm', hg⟩ => ⟨he, ⟨n + 1, _, by omega, hm', hF.put er (hi rfl) _⟩, hg⟩
end Go.Proofs.YtjeafniglnnkhaaGreatDoor
