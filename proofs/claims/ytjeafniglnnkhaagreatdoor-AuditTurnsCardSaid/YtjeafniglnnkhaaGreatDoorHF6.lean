/- Walks: slices.SortFunc at faults, of no more than one; found.told. -/
import Derived.Test.YtjeafniglnnkhaaGreatDoorHF5
import Derived.Test.YtjeafniglnnkhaaGreatDoorHF1
import Derived.Sort.OwnSorted
namespace Go.Proofs.YtjeafniglnnkhaaGreatDoor
open Go.RowKit Go.Maps

theorem insF_small (A : Option Addr) (n c : Nat) (fv : Value) (w : World) (hn : n ≤ 1) : Calls Tryz.prog 145 #[.slice A n c, .int .i64 0, .int .i64 n, fv] w fun e w' => e = .returned (.tuple #[]) ∧ w' = w := by
  have h1 : decide ((1 : Int) < (n : Int)) = false := decide_eq_false (by omega)
  go_enter Tryz.func145, Tryz.ntmps145
  go_wp2
  refine wp_loop_rounds 1 ?_
  rw [rounds_succ]
  go_wp2
  go_end0
  exact ⟨rfl, rfl⟩

theorem pdqF_small (A : Option Addr) (n c : Nat) (lim : Int) (fv : Value) (w : World) (hn : n ≤ 1) : Calls Tryz.prog 104 #[.slice A n c, .int .i64 0, .int .i64 n, .int .i64 lim, fv] w fun e w' => e = .returned (.tuple #[]) ∧ w' = w := by
  have h1 : decide ((n : Int) ≤ 12) = true := decide_eq_true (by omega)
  have h0 : (0 : Int) ≤ (n : Int) := by omega
  have h2 : (n : Int) ≤ 1 := by omega
  go_enter Tryz.func104, Tryz.ntmps104
  go_wp2_with fail
  refine wp_loop_rounds 1 ?_
  rw [rounds_succ]
  go_wp2_with fail
  refine (insF_small A n c fv w hn).mono ?_
  rintro e w' ⟨rfl, hw⟩
  rw [hw]
  clear hw w'
  go_wp2
  refine bodyPost_ret (results_none rfl _ _ _) rfl ?_
  exact ⟨rfl, rfl⟩

theorem sortF_small (A : Option Addr) (n c : Nat) (fv : Value) (w : World) (hn : n ≤ 1) : Calls Tryz.prog 73 #[.slice A n c, fv] w fun e w' => e = .returned (.tuple #[]) ∧ w' = w := by
  have h0 : (0 : Int) ≤ (n : Int) := by omega
  have h2 : (n : Int) ≤ 1 := by omega
  have wr : IntKind.u64.wrap (n : Int) = n := by simp [IntKind.wrap, IntKind.bits, IntKind.signed]; omega
  have hL := fun W => Tryz.bits_Len (n : Int) W
  go_enter Tryz.func73, Tryz.ntmps73
  go_wp2_with fail
  refine (hL w (by omega) (by omega)).mono ?_
  rintro e w' ⟨rfl, hw⟩
  rw [hw]
  clear hw w' hL
  go_wp2_with fail
  refine (pdqF_small A n c _ fv w hn).mono ?_
  rintro e w' ⟨rfl, hw⟩
  rw [hw]
  clear hw w'
  go_wp2
  go_end0
  exact ⟨rfl, rfl⟩

theorem info75 : (Tryz.prog.info? 75).map (fun i => (i.zero, i.size, i.bytes)) = some (some (.agg #[.int .i64 0, .int .i64 0]), 2, 16) := by kernel_rfl

def faultsAt (at_ : Int) (o : Option Int) : List (Int × Int) := o.toList.map fun e => (at_, e)

/-- What was met of the faults while they are ranged over. -/
def ToldSo (at_ : Int) (o : Option Int) (left : Lit → Bool) (ss : List (Int × Int)) : Prop :=
  (ss = [] ∧ ∀ x : Int, left (.int .i64 x) = (o == some x)) ∨ (ss = faultsAt at_ o ∧ o.isSome = true ∧ ∀ x : Int, left (.int .i64 x) = false)

theorem ToldSo.step {at_ : Int} {o : Option Int} {left : Lit → Bool} {ss : List (Int × Int)} (h : ToldSo at_ o left ss) {x : Int} (hl : left (.int .i64 x) = true) :
    ss = [] ∧ ToldSo at_ o (fun z => left z && !z.sameKey (.int .i64 x)) (ss ++ [(at_, x)]) := by
  rcases h with ⟨rfl, h⟩ | ⟨_, _, h⟩
  · refine ⟨rfl, .inr ?_⟩
    have hx := h x
    rw [hl] at hx
    have ho : o = some x := by simpa using hx.symm
    subst ho
    refine ⟨rfl, rfl, fun y => ?_⟩
    show (left (.int .i64 y) && _) = false
    rw [h y]
    by_cases hy : y = x
    · subst hy; simp [Lit.sameKey]
    · have : (some x == some y) = false := by simp; exact fun h => hy h.symm
      rw [this]; rfl
  · rw [h x] at hl; cases hl
theorem ToldSo.done {at_ : Int} {o : Option Int} {left : Lit → Bool} {ss : List (Int × Int)} (h : ToldSo at_ o left ss) (hl : ∀ z, left z = false) : ss = faultsAt at_ o := by
  rcases h with ⟨rfl, h⟩ | ⟨h, _, _⟩
  · cases o with
    | none => rfl
    | some x => have := h x; rw [hl] at this; simp at this
  · exact h

theorem row_ne_iterF {w : World} {b n r : Nat} {D : DataW Unit} {left : Lit → Bool} {cnt base : Nat} {v : Value} {m : Nat} {xs : List Value} (h : w.ownsRow base 75 2 v m xs) (hr : r < base) : some r ≠ v.ownBlock := fun e => by
  have := (h.lt r e.symm).1
  omega

set_option maxRecDepth 100000 in
set_option maxHeartbeats 2000000 in
theorem told_found (b N : Nat) (o : Option Int) (at_ : Int) (w : World) (h : Found w b o N) (hN : N ≤ 100000) :
    Calls Tryz.prog 49 #[.map (some b), .int .i64 at_] w fun e w' => ∃ v, e = .returned v ∧ w'.ownsRow (w.heap.size + 1) 75 2 v (faultsAt at_ o).length ((faultsAt at_ o).flatMap encFa) ∧ Below w.heap.size w w' := by
  obtain ⟨n, D, hn, hown, hM, hF⟩ := h
  have HF := Lib.hid hF
  obtain ⟨i0, hi, hz0, hz1, hz2⟩ := info_parts info75
  have hml := hown.lt
  clear hF
  go_enter Tryz.func49, Tryz.ntmps49
  go_wp2_with (first | (at_range; refine wpList_range_own _ rfl _ 99 rfl 73 4 law73 Tryz.underlying99 _ b n _ rfl hown ?_; intro w3 hrg0 hg0 hs0))
  go_frame
  generalize hr : w.heap.size = r at *
  go_loopw [5] (fun v wi => ∃ (left : Lit → Bool) (cnt : Nat) (ss : List (Int × Int)), wi.ranges Tryz.prog 73 boolElem b r n D left cnt ∧
    wi.ownsRow (r + 1) 75 2 v ss.length (ss.flatMap encFa) ∧ Hid (ToldSo at_ o left ss) ∧ ss.length ≤ 1 ∧ Below r w wi) (fun _ wi => wi.rangeLeft b r)
  case atStart => exact ⟨_, _, [], hrg0, World.ownsRow_nil _ _ _ _, .inl ⟨rfl, HF.out⟩, by simp, (Below.refl _ _).grown hg0 (by omega) (fun j hj => by cases hj)⟩
  case round =>
    obtain ⟨left, cnt, ss, hrg, hrow, HT, hss, hbi⟩ := hrel
    go_wp2_with (first | (at_next; refine wpList_next_ranges _ rfl _ rfl 73 law73 boolElem (Value.int .i64) (fun c : Value => c) (fun key kl hk => by obtain ⟨x, rfl, _⟩ := Maps.keyOf_int_inv Tryz.underlying73 hk; exact ⟨x, rfl⟩) (fun v _ _ => ⟨v, rfl⟩) b r n _ _ _ rfl hrg ?_ ?_))
    · intro hc0 hl0
      have HD := Lib.hid (HT.out.done hl0)
      obtain ⟨A, c, rfl⟩ : ∃ A c, u5 = .slice A ss.length c := by
        rcases hrow.2 with ⟨h1, h2⟩ | ⟨g', cap, cur, h1, _⟩
        · exact ⟨none, 0, by rw [h1, h2]⟩
        · exact ⟨_, _, h1⟩
      go_wp2_with fail
      refine (sortF_small A ss.length c _ _ hss).mono ?_
      rintro e w' ⟨rfl, hw⟩
      rw [hw]
      clear hw w'
      go_wp2
      go_ret
      exact ⟨_, rfl, by rw [← HD.out, hr]; exact hrow, by rw [hr]; exact hbi⟩
    · intro x c kl yd yp w4 cnt2 hkey hlk hv hat hrg2 hlt2 hg2 hs2 hen
      obtain ⟨x', ex, rfl, hxw⟩ := Maps.keyOf_int_inv Tryz.underlying73 hkey
      cases ex
      obtain ⟨rfl, HT2⟩ := HT.out.step hlk
      have HT3 := Lib.hid HT2
      clear HT2
      have hrl := hrg.lt
      have hrow2 := hrow.kept hg2 (Or.inr (row_ne_iterF (b := b) (n := n) (D := D) (left := left) (cnt := cnt) hrow (by omega)).symm)
      have hb4 := hbi.grown hg2 (by omega) (fun j hj => by cases hj; omega)
      have hs4 : r + 1 ≤ w4.heap.size := by rw [hs2]; omega
      clear hs2
      go_wp2_with (first | (at_builtin; refine wpList_app rfl _ _ 63 rfl (r + 1) 75 i0 _ 2 16 Tryz.underlying63 hi hz0 hz1 hz2 rfl (by decide) _ _ _ rfl hrow2 [.int .i64 at_, .int .i64 x] rfl rfl (by intro u hu; simp at hu; rcases hu with rfl | rfl <;> rfl) (by decide) (by decide) hs4 ?_; intro v' w5 hown5 hbel5 hsz5 hdr5 hg5; go_frame))
      have hrg5 := hrg2.kept hg5 (row_ne_low hrow2 (by omega)) (row_ne_low hrow2 (by omega))
      go_roundw
      case rel => exact ⟨_, cnt2, [(at_, x)], hrg5, by simpa [encFa] using hown5, HT3, by simp, hb4.trans (hbel5.mono (by omega))⟩
      case measure => rw [hrg5.left_eq, hrg.left_eq]; exact hlt2
end Go.Proofs.YtjeafniglnnkhaaGreatDoor
