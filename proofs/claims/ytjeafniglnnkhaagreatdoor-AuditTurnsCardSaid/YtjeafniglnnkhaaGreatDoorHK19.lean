/- Walk: crierlaw21.known. -/
import Derived.Test.YtjeafniglnnkhaaGreatDoorHK17
import Derived.Test.YtjeafniglnnkhaaGreatDoorHE1
namespace Go.Proofs.YtjeafniglnnkhaaGreatDoor
open Go.RowKit

theorem At1.cells {W : World} {b : Nat} (h : At1 W b) : W.cell? ⟨b + 1 + 1, 0, none⟩ = some (.int .i64 0) ∧ W.cell? ⟨b + 1 + 1, 1, none⟩ = some (.slice (some ⟨b + 1, 0, none⟩) 1 1) ∧ W.cell? ⟨b + 1 + 1, 2, none⟩ = some (.slice none 0 0) ∧ W.cell? ⟨b + 1 + 1, 3, none⟩ = some (.slice none 0 0) :=
  ⟨(cell_of_row W (b + 2) 0 _ 26 (0, 0) h.b2).trans rfl, (cell_of_row W (b + 2) 1 _ 26 (0, 0) h.b2).trans rfl, (cell_of_row W (b + 2) 2 _ 26 (0, 0) h.b2).trans rfl, (cell_of_row W (b + 2) 3 _ 26 (0, 0) h.b2).trans rfl⟩

theorem at1_made (w : World) : At1 (((w.alloc (.cells cells1 49)).alloc (.cells #[.string kC, .slice (some ⟨w.heap.size, 0, none⟩) 3 3, .int .i64 0, .slice none 0 0, .slice none 0 0, .slice none 0 0] 47)).alloc (.cells #[.int .i64 0, .slice (some ⟨w.heap.size + 1, 0, none⟩) 1 1, .slice none 0 0, .slice none 0 0] 26)) w.heap.size := by
  refine ⟨?_, ?_, ?_⟩
  · rw [heap_alloc_old _ _ (by simp; omega), heap_alloc_old _ _ (by simp)]
    exact heap_alloc_new w _
  · rw [heap_alloc_old _ _ (by simp)]
    have := heap_alloc_new (w.alloc (.cells cells1 49)) (.cells #[.string kC, .slice (some ⟨w.heap.size, 0, none⟩) 3 3, .int .i64 0, .slice none 0 0, .slice none 0 0, .slice none 0 0] 47)
    rwa [show (w.alloc (.cells cells1 49)).heap.size = w.heap.size + 1 by simp] at this
  · have := heap_alloc_new ((w.alloc (.cells cells1 49)).alloc (.cells #[.string kC, .slice (some ⟨w.heap.size, 0, none⟩) 3 3, .int .i64 0, .slice none 0 0, .slice none 0 0, .slice none 0 0] 47)) (.cells #[.int .i64 0, .slice (some ⟨w.heap.size + 1, 0, none⟩) 1 1, .slice none 0 0, .slice none 0 0] 26)
    rwa [show ((w.alloc (.cells cells1 49)).alloc (.cells #[.string kC, .slice (some ⟨w.heap.size, 0, none⟩) 3 3, .int .i64 0, .slice none 0 0, .slice none 0 0, .slice none 0 0] 47)).heap.size = w.heap.size + 2 by simp] at this

theorem At1.drewN {W : World} {b : Nat} (h : At1 W b) (n : Nat) : At1 (W.drewN n) b := ⟨h.b0, h.b1, h.b2⟩
theorem At1.drew {W : World} {b : Nat} (h : At1 W b) : At1 W.drew b := ⟨h.b0, h.b1, h.b2⟩

theorem At2.drewN {W : World} {b : Nat} {key : ByteArray} (h : At2 W b key) (n : Nat) : At2 (W.drewN n) b key := ⟨h.b0, h.b1, h.b2, h.b3, h.b4⟩
theorem At2.cells {W : World} {b : Nat} {key : ByteArray} (h : At2 W b key) : W.cell? ⟨b + 1 + 1 + 1 + 1, 0, none⟩ = some (.int .i64 0) ∧ W.cell? ⟨b + 1 + 1 + 1 + 1, 1, none⟩ = some (.slice (some ⟨b + 1 + 1, 0, none⟩) 2 2) ∧ W.cell? ⟨b + 1 + 1 + 1 + 1, 2, none⟩ = some (.slice none 0 0) ∧ W.cell? ⟨b + 1 + 1 + 1 + 1, 3, none⟩ = some (.slice (some ⟨b + 1 + 1 + 1, 0, none⟩) 1 1) :=
  ⟨(cell_of_row W (b + 4) 0 _ 26 (0, 0) h.b4).trans rfl, (cell_of_row W (b + 4) 1 _ 26 (0, 0) h.b4).trans rfl, (cell_of_row W (b + 4) 2 _ 26 (0, 0) h.b4).trans rfl, (cell_of_row W (b + 4) 3 _ 26 (0, 0) h.b4).trans rfl⟩

theorem blk_up {w : World} {k : Nat} {x o : Obj} (h : w.heap[k]? = some x) : (w.alloc o).heap[k]? = some x := (heap_alloc_old w o (Array.getElem?_eq_some_iff.1 h).1).trans h
theorem blk_new {w : World} {k : Nat} (o : Obj) (h : w.heap.size = k) : (w.alloc o).heap[k]? = some o := by subst h; exact heap_alloc_new w o

theorem at2_made (w : World) : At2 (((((w.alloc (.cells #[.string kG, .int .i64 1] 49)).alloc (.cells #[.string kG, .int .i64 2] 49)).alloc (.cells #[.string kA, .slice (some ⟨w.heap.size, 0, none⟩) 1 1, .int .i64 0, .slice none 0 0, .slice none 0 0, .slice none 0 0, .string kB, .slice (some ⟨w.heap.size + 1, 0, none⟩) 1 1, .int .i64 0, .slice none 0 0, .slice none 0 0, .slice none 0 0] 47)).alloc (.cells #[.string kG, .string kA] 51)).alloc (.cells #[.int .i64 0, .slice (some ⟨w.heap.size + 1 + 1, 0, none⟩) 2 2, .slice none 0 0, .slice (some ⟨w.heap.size + 1 + 1 + 1, 0, none⟩) 1 1] 26)) w.heap.size kA :=
  ⟨blk_up (blk_up (blk_up (blk_up (blk_new _ rfl)))), blk_up (blk_up (blk_up (blk_new _ (by simp)))), blk_up (blk_up (blk_new _ (by simp))), blk_up (blk_new _ (by simp)), blk_new _ (by simp)⟩

theorem rows_keep {α : Type} {enc : α → List Value} {k n : Nat} {v : Value} {l : List α} {w w' : World} (h : IsRows w w.heap.size k v n (EncCells enc l)) (hb : Below w.heap.size w w') : IsRows w' w.heap.size k v n (EncCells enc l) := h.below hb (fun _ _ h => h)
theorem rows_next {α : Type} {enc : α → List Value} {k n : Nat} {v : Value} {l : List α} {w w' : World} (h : IsRows w w.heap.size k v n (EncCells enc l)) (hb : Below w.heap.size w w') : IsRows w' w'.heap.size k v n (EncCells enc l) := (h.below hb (fun _ _ h => h)).mono hb.size
theorem rows_drewN {k n : Nat} {v : Value} {w : World} {B : Nat} {R : Nat → List Value → Prop} (h : IsRows w B k v n R) (d : Nat) : IsRows (w.drewN d) B k v n R := h.below (below_drewN (Below.refl B w) d) (fun _ _ h => h)

theorem rows_lit {α : Type} {enc : α → List Value} {k : Nat} (w : World) (t : TypeId) (x : α) (cs : Array Value) (hcs : enc x = cs.toList) : IsRows (w.alloc (.cells cs t)) (w.alloc (.cells cs t)).heap.size k (.slice (some ⟨w.heap.size, 0, none⟩) 1 1) 1 (EncCells enc [x]) :=
  rows_of_block (heap_alloc_new w _) (by simp) (by decide) (by decide) (idx1 ⟨_, ⟨by simp, rfl⟩, fun j u hu => by
    simp only [List.getElem_cons_zero, hcs, Array.getElem?_toList] at hu
    rw [Nat.zero_mul, Nat.zero_add]
    exact hu⟩)

set_option maxRecDepth 100000 in
theorem info47 : (Tryz.prog.info? 47).map (fun i => (i.zero, i.size, i.bytes)) = some (some (.agg #[.string ByteArray.empty, .slice none 0 0, .int .i64 0, .slice none 0 0, .slice none 0 0, .slice none 0 0]), 6, 120) := by kernel_rfl

set_option maxRecDepth 100000 in
set_option maxHeartbeats 4000000 in
theorem known_true (w : World) : Calls Tryz.prog 5 #[] w (TruePost w) := by
  have hA1 := Lib.hid (at1_made w)
  have hb1 : Below w.heap.size w (((w.alloc (.cells cells1 49)).alloc (.cells #[.string kC, .slice (some ⟨w.heap.size, 0, none⟩) 3 3, .int .i64 0, .slice none 0 0, .slice none 0 0, .slice none 0 0] 47)).alloc (.cells #[.int .i64 0, .slice (some ⟨w.heap.size + 1, 0, none⟩) 1 1, .slice none 0 0, .slice none 0 0] 26)) := (((Below.refl _ _).alloc (Nat.le_refl _) _).alloc (by simp) _).alloc (by simp; omega) _
  go_enter Tryz.func5, Tryz.ntmps5
  go_wp2_with fail
  refine (c_spare1 hA1.out).mono ?_
  generalize (((w.alloc (.cells cells1 49)).alloc (.cells #[.string kC, .slice (some ⟨w.heap.size, 0, none⟩) 3 3, .int .i64 0, .slice none 0 0, .slice none 0 0, .slice none 0 0] 47)).alloc (.cells #[.int .i64 0, .slice (some ⟨w.heap.size + 1, 0, none⟩) 1 1, .slice none 0 0, .slice none 0 0] 26)) = w1 at *
  rintro e w2 ⟨v2, rfl, hr2, hb2⟩
  have hA2 := Lib.hid (hA1.out.next hb2)
  have hb02 := hb1.trans (hb2.mono hb1.size)
  have hbx : Below w2.heap.size w2 (w2.alloc (.cells #[.string kC, .string kAB, .string kAPlus] 62)) := (Below.refl _ _).alloc (Nat.le_refl _) _
  have hA3 := Lib.hid (hA2.out.next hbx)
  have hb03 := hb02.trans (hbx.mono hb02.size)
  have HQ := Lib.hid (sameSpares_yes v2 (.slice (some ⟨w2.heap.size, 0, none⟩) 1 1) [(kC, kAB, kAPlus)] _ _ _ ((hr2.below hbx (fun _ _ h => h))) (rows_lit w2 62 (kC, kAB, kAPlus) #[.string kC, .string kAB, .string kAPlus] rfl))
  clear hA1 hA2 hr2 hb2 hb02 hb1
  go_wp2_with fail
  refine HQ.out.mono ?_
  generalize w2.alloc (.cells #[.string kC, .string kAB, .string kAPlus] 62) = w3 at *
  rintro e w' ⟨rfl, d, rfl⟩
  have hA3 := Lib.hid (hA3.out.drewN d)
  have hb03 := below_drewN hb03 d
  clear HQ hbx
  generalize w3.drewN d = w4 at *
  obtain ⟨k0, k1, k2, k3⟩ := hA3.out.cells
  go_wp2_with fail
  refine (c_faults1 hA3.out).mono ?_
  rintro e w5 ⟨A5, c5, rfl, hb5⟩
  have hA5 := Lib.hid (hA3.out.next hb5)
  have hb05 := hb03.trans (hb5.mono hb03.size)
  clear k0 k1 k2 k3 hA3 hb03 hb5
  obtain ⟨k0, k1, k2, k3⟩ := hA5.out.cells
  have HAC := Lib.hid (fun (W : World) (h : At1 W w.heap.size) => c_who1 h kAC 1 false [(kC, 2)] (by decide) (by kernel_rfl) (by decide) whoAC)
  have HAB := Lib.hid (fun (W : World) (h : At1 W w.heap.size) => c_who1 h kAB 2 false [(kC, 1)] (by decide) (by kernel_rfl) (by decide) whoAB)
  have e1 : [(kC, (2 : Int))].map (capE 1) = [(kC, 1)] := by kernel_rfl
  have e2 : [(kC, (1 : Int))].map (capE 2) = [(kC, 1)] := by kernel_rfl
  rw [e1] at HAC
  rw [e2] at HAB
  clear e1 e2
  go_upto_region 4 with fail
  go_cut [2, 3] from 27 to 33 (fun va vb wc => IsRows wc wc.heap.size 2 va 1 (EncCells encEn [(kC, 1)]) ∧ IsRows wc wc.heap.size 2 vb 1 (EncCells encEn [(kC, 1)]) ∧ At1 wc w.heap.size ∧ Below w.heap.size w wc)
  case first =>
    have hAd := Lib.hid hA5.out.drew
    have hb5d : Below w.heap.size w w5.drew := below_drewN hb05 1
    have HI := fun W => Lib.hid (fun (h : At1 W w.heap.size) => (show Calls Tryz.prog 20 #[.agg #[.int .i64 0, .slice (some ⟨w.heap.size + 1, 0, none⟩) 1 1, .slice none 0 0, .slice none 0 0], .agg #[.string ⟨#[97, 47, 99]⟩, .slice none 0 0, .int .i64 1, .bool false]] W (RowPost encEn 2 [(kC, 1)] W) from HAC.out W h))
    have HJ := fun W => Lib.hid (fun (h : At1 W w.heap.size) => (show Calls Tryz.prog 20 #[.agg #[.int .i64 0, .slice (some ⟨w.heap.size + 1, 0, none⟩) 1 1, .slice none 0 0, .slice none 0 0], .agg #[.string ⟨#[97, 47, 98]⟩, .slice none 0 0, .int .i64 2, .bool false]] W (RowPost encEn 2 [(kC, 1)] W) from HAB.out W h))
    have HI0 := Lib.hid ((HI _).out hAd.out)
    have HJ0 := Lib.hid ((HJ _).out hAd.out)
    clear HAC HAB
    go_region_held3 (fun w' => w'.cell? ⟨w.heap.size + 1 + 1, 0, none⟩ = some (.int .i64 0) ∧ w'.cell? ⟨w.heap.size + 1 + 1, 1, none⟩ = some (.slice (some ⟨w.heap.size + 1, 0, none⟩) 1 1) ∧ w'.cell? ⟨w.heap.size + 1 + 1, 2, none⟩ = some (.slice none 0 0) ∧ w'.cell? ⟨w.heap.size + 1 + 1, 3, none⟩ = some (.slice none 0 0)) (first | exact hA5.out.cells | exact hAa.out.cells | exact hAb.out.cells)
      (first
        | (go_at_call 20; (with_reducible refine HI0.out.mono ?_); rintro e wa ⟨va, rfl, hra, hba⟩; have hAa := Lib.hid (hAd.out.next hba); have HJ1 := Lib.hid ((HJ _).out hAa.out); clear HI0 HJ0)
        | (go_at_call 20; (with_reducible refine HJ0.out.mono ?_); rintro e wb ⟨vb, rfl, hrb, hbb⟩; have hAb := Lib.hid (hAd.out.next hbb); have HI1 := Lib.hid ((HI _).out hAb.out); clear HI0 HJ0)
        | (go_at_call 20; (with_reducible refine HJ1.out.mono ?_); rintro e wb ⟨vb, rfl, hrb, hbb⟩; have hAb := Lib.hid (hAa.out.next hbb))
        | (go_at_call 20; (with_reducible refine HI1.out.mono ?_); rintro e wa ⟨va, rfl, hra, hba⟩; have hAa := Lib.hid (hAb.out.next hba)))
    go_wp2_with fail
    go_meet
    exact ⟨rows_next hra hbb, hrb, hAb.out, hb5d.trans ((hba.trans (hbb.mono hba.size)).mono hb5d.size)⟩
  case rest =>
    obtain ⟨hra, hrb, hAc, hbc⟩ := hcut
    clear k0 k1 k2 k3 hA5 hb05 HAC HAB
    have hAc := Lib.hid hAc
    have hbx : Below wc.heap.size wc (wc.alloc (.cells #[.string kC, .int .i64 1] 69)) := (Below.refl _ _).alloc (Nat.le_refl _) _
    have HQ := Lib.hid (sameEntries_yes u2 (.slice (some ⟨wc.heap.size, 0, none⟩) 1 1) [(kC, 1)] _ _ _ (rows_keep hra hbx) (rows_lit wc 69 (kC, 1) #[.string kC, .int .i64 1] rfl))
    have hra1 := rows_next hra hbx
    have hrb1 := rows_next hrb hbx
    have hA1 := Lib.hid (hAc.out.next hbx)
    have hb1 := hbc.trans (hbx.mono hbc.size)
    clear hra hrb hAc hbc
    go_wp2_with fail
    refine HQ.out.mono ?_
    generalize wc.alloc (.cells #[.string kC, .int .i64 1] 69) = w6 at *
    rintro e w' ⟨rfl, d, rfl⟩
    have hra2 := rows_drewN hra1 d
    have hrb2 := rows_drewN hrb1 d
    have hA2 := Lib.hid (hA1.out.drewN d)
    have hb2 := below_drewN hb1 d
    clear HQ hbx hra1 hrb1 hA1 hb1
    generalize w6.drewN d = w7 at *
    have HQ := Lib.hid (sameEntries_yes u3 u2 [(kC, 1)] w7 _ _ hrb2 hra2)
    clear hra2 hrb2
    go_wp2_with fail
    refine HQ.out.mono ?_
    rintro e w' ⟨rfl, d, rfl⟩
    have hA3 := Lib.hid (hA2.out.drewN d)
    have hb3 := below_drewN hb2 d
    clear HQ hA2 hb2
    generalize w7.drewN d = w8 at *
    obtain ⟨k0, k1, k2, k3⟩ := hA3.out.cells
    have HB := Lib.hid (c_who1 hA3.out kB 0 false [] (by decide) (by kernel_rfl) (by decide) whoB)
    go_wp2_with fail
    refine HB.out.mono ?_
    rintro e w9 hp
    obtain ⟨A9, c9, rfl, hb9⟩ := RowPost.none hp
    have hA4 := Lib.hid (hA3.out.next hb9)
    have hb4 := hb3.trans (hb9.mono hb3.size)
    clear hp HB hA3 hb3 hb9 k0 k1 k2 k3
    obtain ⟨k0, k1, k2, k3⟩ := hA4.out.cells
    have HB := Lib.hid (c_could1 hA4.out)
    go_wp2_with fail
    refine HB.out.mono ?_
    rintro e w10 ⟨v10, rfl, hr10, hb10⟩
    have hA5 := Lib.hid (hA4.out.next hb10)
    have hb5 := hb4.trans (hb10.mono hb4.size)
    have hbx : Below w10.heap.size w10 (w10.alloc (.cells #[.string kC, .int .i64 2] 69)) := (Below.refl _ _).alloc (Nat.le_refl _) _
    have HQ := Lib.hid (sameEntries_yes v10 (.slice (some ⟨w10.heap.size, 0, none⟩) 1 1) [(kC, 2)] _ _ _ (rows_keep hr10 hbx) (rows_lit w10 69 (kC, 2) #[.string kC, .int .i64 2] rfl))
    have hA6 := Lib.hid (hA5.out.next hbx)
    have hb6 := hb5.trans (hbx.mono hb5.size)
    clear HB hA4 hb4 hb10 k0 k1 k2 k3 hr10 hA5 hb5
    go_wp2_with fail
    refine HQ.out.mono ?_
    generalize w10.alloc (.cells #[.string kC, .int .i64 2] 69) = w11 at *
    rintro e w' ⟨rfl, d, rfl⟩
    have hA7 := Lib.hid (hA6.out.drewN d)
    have hb7 := below_drewN hb6 d
    clear HQ hbx hA6 hb6
    generalize w11.drewN d = w12 at *
    have hB0 := Lib.hid (at2_made w12)
    have hbx : Below w12.heap.size w12 (((((w12.alloc (.cells #[.string kG, .int .i64 1] 49)).alloc (.cells #[.string kG, .int .i64 2] 49)).alloc (.cells #[.string kA, .slice (some ⟨w12.heap.size, 0, none⟩) 1 1, .int .i64 0, .slice none 0 0, .slice none 0 0, .slice none 0 0, .string kB, .slice (some ⟨w12.heap.size + 1, 0, none⟩) 1 1, .int .i64 0, .slice none 0 0, .slice none 0 0, .slice none 0 0] 47)).alloc (.cells #[.string kG, .string kA] 51)).alloc (.cells #[.int .i64 0, .slice (some ⟨w12.heap.size + 1 + 1, 0, none⟩) 2 2, .slice none 0 0, .slice (some ⟨w12.heap.size + 1 + 1 + 1, 0, none⟩) 1 1] 26)) :=
      (((((Below.refl _ _).alloc (Nat.le_refl _) _).alloc (by simp) _).alloc (by simp; omega) _).alloc (by simp; omega) _).alloc (by simp; omega) _
    have hA8 := Lib.hid (hA7.out.next hbx)
    have hb8 := hb7.trans (hbx.mono hb7.size)
    have hlt1 := hA7.out.lt
    clear hA7 hb7
    have HB := Lib.hid (c_shares2o hB0.out (by decide) (kG, kB, 2) sharesA)
    go_wp2_with fail
    refine HB.out.mono ?_
    generalize (((((w12.alloc (.cells #[.string kG, .int .i64 1] 49)).alloc (.cells #[.string kG, .int .i64 2] 49)).alloc (.cells #[.string kA, .slice (some ⟨w12.heap.size, 0, none⟩) 1 1, .int .i64 0, .slice none 0 0, .slice none 0 0, .slice none 0 0, .string kB, .slice (some ⟨w12.heap.size + 1, 0, none⟩) 1 1, .int .i64 0, .slice none 0 0, .slice none 0 0, .slice none 0 0] 47)).alloc (.cells #[.string kG, .string kA] 51)).alloc (.cells #[.int .i64 0, .slice (some ⟨w12.heap.size + 1 + 1, 0, none⟩) 2 2, .slice none 0 0, .slice (some ⟨w12.heap.size + 1 + 1 + 1, 0, none⟩) 1 1] 26)) = w13 at *
    rintro e w14 ⟨v14, rfl, hr14, hb14⟩
    have hB1 := hB0.out.next hb14
    have hA9 := Lib.hid (hA8.out.next hb14)
    have hb9 := hb8.trans (hb14.mono hb8.size)
    obtain ⟨k0, k1, k2, k3⟩ := hB1.cells
    have y1 : w14.cell? ⟨w12.heap.size + 1 + 1 + 1, 1, none⟩ = some (.string kA) := (cell_of_row w14 (w12.heap.size + 3) 1 _ 51 (0, 0) hB1.b3).trans rfl
    have fz : w14.frozen? ⟨w12.heap.size + 1 + 1 + 1, 1, none⟩ = false := blk_frozen hB1.b3 1
    have hlt2 := hB0.out.lt
    have hB2 : At2 (w14.setCell ⟨w12.heap.size + 1 + 1 + 1, 1, none⟩ (.string ⟨#[98]⟩)) w12.heap.size kB := hB1.setKey kB
    have hB2 := Lib.hid hB2
    have hr15 : (w14.setCell ⟨w12.heap.size + 1 + 1 + 1, 1, none⟩ (.string ⟨#[98]⟩)).ownsRow w13.heap.size 38 3 v14 1 ([(kG, kB, (2 : Int))].flatMap encSh) := own_setC hr14 (p := ⟨w12.heap.size + 1 + 1 + 1, 1, none⟩) (fun e => by have := (hr14.lt _ e.symm).1; simp at this; omega) _
    have far : ∀ j, j < w12.heap.size → (w14.setCell ⟨w12.heap.size + 1 + 1 + 1, 1, none⟩ (.string ⟨#[98]⟩)).heap[j]? = w14.heap[j]? := fun j hj => by rw [Below.heap_setCell _ _ _ _ (fun e => by simp at e; omega)]
    have hA10 : At1 (w14.setCell ⟨w12.heap.size + 1 + 1 + 1, 1, none⟩ (.string ⟨#[98]⟩)) w.heap.size :=
      ⟨(far _ (by omega)).trans hA9.out.b0, (far _ (by omega)).trans hA9.out.b1, (far _ (by omega)).trans hA9.out.b2⟩
    have hA10 := Lib.hid hA10
    have hb10 : Below w.heap.size w (w14.setCell ⟨w12.heap.size + 1 + 1 + 1, 1, none⟩ (.string ⟨#[98]⟩)) := hb9.setCell (by show w.heap.size ≤ w12.heap.size + 1 + 1 + 1; omega) _
    have hrv := rows_of_owns (enc := encSh) (l := [(kG, kB, (2 : Int))]) (fun _ => rfl) (by decide) hr15 (by decide)
    have HB2 := Lib.hid (c_shares2 hB2.out (by decide) (kG, kA, 1) sharesB)
    clear HB hB0 hB1 hA8 hA9 hb8 hb9 hr14 hr15 hb14 far
    go_wp2_with fail
    refine HB2.out.mono ?_
    generalize w14.setCell ⟨w12.heap.size + 1 + 1 + 1, 1, none⟩ (.string ⟨#[98]⟩) = w15 at *
    rintro e w16 ⟨v16, rfl, hr16, hb16⟩
    have hrv := rows_next hrv hb16
    have hA11 := Lib.hid (hA10.out.next hb16)
    have hB3 := Lib.hid (hB2.out.next hb16)
    have hb11 := hb10.trans (hb16.mono hb10.size)
    clear HB2 k0 k1 k2 k3 y1 fz hA10 hB2 hb10 hb16 hbx hlt2
    have hbx : Below w16.heap.size w16 (w16.alloc (.cells #[.string kG, .string kB, .int .i64 2] 38)) := (Below.refl _ _).alloc (Nat.le_refl _) _
    have HQ := Lib.hid (sameShares_yes v14 (.slice (some ⟨w16.heap.size, 0, none⟩) 1 1) [(kG, kB, 2)] _ _ _ (rows_keep hrv hbx) (rows_lit w16 38 (kG, kB, 2) #[.string kG, .string kB, .int .i64 2] rfl))
    have hr1 := rows_next hr16 hbx
    have hA12 := Lib.hid (hA11.out.next hbx)
    have hB4 := Lib.hid (hB3.out.next hbx)
    have hb12 := hb11.trans (hbx.mono hb11.size)
    clear hrv hr16 hA11 hB3 hb11
    go_wp2_with fail
    refine HQ.out.mono ?_
    generalize w16.alloc (.cells #[.string kG, .string kB, .int .i64 2] 38) = w17 at *
    rintro e w' ⟨rfl, d, rfl⟩
    have hr2 := rows_drewN hr1 d
    have hA13 := Lib.hid (hA12.out.drewN d)
    have hB5 := Lib.hid (hB4.out.drewN d)
    have hb13 := below_drewN hb12 d
    clear HQ hbx hr1 hA12 hB4 hb12
    have hr2 : IsRows (w17.drewN d) (w17.drewN d).heap.size 3 v16 1 (EncCells encSh [(kG, kA, (1 : Int))]) := hr2
    generalize w17.drewN d = w18 at *
    have hbx : Below w18.heap.size w18 (w18.alloc (.cells #[.string kG, .string kA, .int .i64 1] 38)) := (Below.refl _ _).alloc (Nat.le_refl _) _
    have HQ := Lib.hid (sameShares_yes v16 (.slice (some ⟨w18.heap.size, 0, none⟩) 1 1) [(kG, kA, 1)] _ _ _ (rows_keep hr2 hbx) (rows_lit w18 38 (kG, kA, 1) #[.string kG, .string kA, .int .i64 1] rfl))
    have hA14 := Lib.hid (hA13.out.next hbx)
    have hB6 := Lib.hid (hB5.out.next hbx)
    have hb14 := hb13.trans (hbx.mono hb13.size)
    clear hr2 hA13 hB5 hb13
    go_wp2_with fail
    refine HQ.out.mono ?_
    generalize w18.alloc (.cells #[.string kG, .string kA, .int .i64 1] 38) = w19 at *
    rintro e w' ⟨rfl, d, rfl⟩
    have hA15 := Lib.hid (hA14.out.drewN d)
    have hB7 := Lib.hid (hB6.out.drewN d)
    have hb15 := below_drewN hb14 d
    clear HQ hbx hA14 hB6 hb14
    generalize w19.drewN d = w20 at *
    obtain ⟨k0, k1, k2, k3⟩ := hB7.out.cells
    have HB := Lib.hid (c_faults2 hB7.out)
    go_wp2_with fail
    refine HB.out.mono ?_
    rintro e w21 ⟨A21, c21, rfl, hb21⟩
    have hA16 := Lib.hid (hA15.out.next hb21)
    have hB8 := Lib.hid (hB7.out.next hb21)
    have hb16 := hb15.trans (hb21.mono hb15.size)
    clear HB hA15 hB7 hb15 hb21 k0 k1 k2 k3
    obtain ⟨k0, k1, k2, k3⟩ := hB8.out.cells
    have HB := Lib.hid (c_spare2 hB8.out (by decide))
    go_wp2_with fail
    refine HB.out.mono ?_
    rintro e w22 ⟨A22, c22, rfl, hb22⟩
    have hA17 := Lib.hid (hA16.out.next hb22)
    have hB9 := Lib.hid (hB8.out.next hb22)
    have hb17 := hb16.trans (hb22.mono hb16.size)
    clear HB hA16 hB8 hb16 hb22 k0 k1 k2 k3
    obtain ⟨k0, k1, k2, k3⟩ := hB9.out.cells
    have HB := Lib.hid (c_who2 hB9.out (by decide))
    go_wp2_with fail
    refine HB.out.mono ?_
    rintro e w23 ⟨A23, c23, rfl, hb23⟩
    have hA18 := Lib.hid (hA17.out.next hb23)
    have hb18 := hb17.trans (hb23.mono hb17.size)
    clear HB hA17 hB9 hb17 hb23 k0 k1 k2 k3
    obtain ⟨k0, k1, k2, k3⟩ := hA18.out.cells
    obtain ⟨i0, hi, hz0, hz1, hz2⟩ := info_parts info47
    have hl18 := hA18.out.lt
    have hbi : Below w23.heap.size w23 (w23.alloc (.cells #[.int .i64 5, .int .i64 5] 3)) := (Below.refl _ _).alloc (Nat.le_refl _) _
    have hA19 := Lib.hid (hA18.out.next hbi)
    have hown : (w23.alloc (.cells #[.int .i64 5, .int .i64 5] 3)).ownsRow w.heap.size 47 6 (.slice (some ⟨w.heap.size + 1, 0, none⟩) 1 1) 1 [.string kC, .slice (some ⟨w.heap.size, 0, none⟩) 3 3, .int .i64 0, .slice none 0 0, .slice none 0 0, .slice none 0 0] :=
      ⟨rfl, .inr ⟨w.heap.size + 1, 1, _, rfl, by omega, hA19.out.b1, Nat.le_refl _, by unfold maxLen; omega, rfl, rfl⟩⟩
    have hszi : w.heap.size ≤ (w23.alloc (.cells #[.int .i64 5, .int .i64 5] 3)).heap.size := by simp; omega
    have HSZ := Lib.hid (show (w23.alloc (.cells #[.int .i64 5, .int .i64 5] 3)).heap.size = w23.heap.size + 1 by simp)
    have HBI := Lib.hid (heap_alloc_new w23 (.cells #[.int .i64 5, .int .i64 5] 3))
    have hb19 := Lib.hid (hb18.trans (hbi.mono (by omega)))
    clear hA18 hb18 hbi
    go_upto_region 14 with (first
      | (at_builtin; refine wpList_app rfl _ _ 22 rfl w.heap.size 47 i0 _ 6 120 Tryz.underlying22 hi hz0 hz1 hz2 rfl (by decide) _ 1 _ rfl hown [.string kB, .slice none 0 0, .int .i64 0, .slice none 0 0, .slice none 0 0, .slice (some ⟨w23.heap.size, 0, none⟩) 2 2] rfl (by rw [HSZ.out]; rfl) (by intro u hu; simp at hu; rcases hu with rfl | rfl | rfl | rfl | rfl | rfl <;> rfl) (by decide) (by decide) hszi ?_; intro v25 w25 hown25 hbel25 hsz25 hdr25 hg25'; have hg25 : (w23.alloc (.cells #[.int .i64 5, .int .i64 5] 3)).grownBy w25 (some (w.heap.size + 1)) := hg25'; clear hg25'; obtain ⟨g, cap, rfl, hgb, hgl⟩ := hown25.form (Nat.succ_pos _); have hne : some (w.heap.size + 1 + 1) ≠ some (w.heap.size + 1) := (by simp); have hl19 := hA19.out.lt; have B2 := (hg25.block (w.heap.size + 1 + 1) hl19 hne).trans hA19.out.b2; have y1 : w25.cell? ⟨w.heap.size + 1 + 1, 1, none⟩ = some (.slice (some ⟨w.heap.size + 1, 0, none⟩) 1 1) := (cell_of_row w25 (w.heap.size + 2) 1 _ 26 (0, 0) B2).trans rfl; have fz1 : w25.frozen? ⟨w.heap.size + 1 + 1, 1, none⟩ = false := blk_frozen B2 1)
      | fail)
    have hAi := hA19.out
    have hgne : w.heap.size + 1 + 1 ≠ g := fun e => row_ne_type hown25 (e ▸ B2) (by decide) rfl
    have hin : w23.heap.size < (w23.alloc (.cells #[.int .i64 5, .int .i64 5] 3)).heap.size := by simp
    have Bi := (hg25.block w23.heap.size hin (fun e => by injection e with e; omega)).trans HBI.out
    have B0 := (hg25.block w.heap.size (by omega) (fun e => by injection e with e; omega)).trans hAi.b0
    have hcap : 2 ≤ cap := by
      rcases hown25.2 with ⟨h, _⟩ | ⟨g', c', cur, h, _, _, hn, _⟩
      · cases h
      · cases h; omega
    have hrow25 := hown25.cells (g := g) rfl
    have hb25 := hb19.out.trans hbel25
    have hil : w23.heap.size < w25.heap.size := blk_lt Bi
    have hbl : w.heap.size < w25.heap.size := blk_lt B0
    have far : ∀ j, j ≠ w.heap.size + 1 + 1 → (w25.setCell ⟨w.heap.size + 1 + 1, 1, none⟩ (.slice (some ⟨g, 0, none⟩) 2 cap)).heap[j]? = w25.heap[j]? := fun j hj => by rw [Below.heap_setCell _ _ _ _ (fun e => hj e)]
    have C0 := (far w.heap.size (by omega)).trans B0
    have Ci := (far w23.heap.size (by omega)).trans Bi
    have C2 := blk_setC B2 1 (.slice (some ⟨g, 0, none⟩) 2 cap)
    have Cg : ∀ (k : Nat) u, (row3 w.heap.size w23.heap.size)[k]? = some u → (w25.setCell ⟨w.heap.size + 1 + 1, 1, none⟩ (.slice (some ⟨g, 0, none⟩) 2 cap)).cell? ⟨g, k, none⟩ = some u := fun k u hu => by
      have h1 := hrow25 k u hu
      have hadd : (⟨g, 0, none⟩ : Addr).add k = ⟨g, k, none⟩ := by unfold Addr.add; split <;> simp_all
      rw [hadd] at h1
      exact (World.cell?_setCell_other _ _ _ _ (fun h => hgne (by injection h))).trans h1
    have hb26 : Below w.heap.size w (w25.setCell ⟨w.heap.size + 1 + 1, 1, none⟩ (.slice (some ⟨g, 0, none⟩) 2 cap)) := hb25.setCell (by show w.heap.size ≤ w.heap.size + 1 + 1; omega) _
    have hw26 : w.heap.size + 1 + 1 < (w25.setCell ⟨w.heap.size + 1 + 1, 1, none⟩ (.slice (some ⟨g, 0, none⟩) 2 cap)).heap.size := blk_lt C2
    have HG := Lib.hid hgne
    clear far B0 Bi B2 y1 fz1 hown25 hrow25 hbel25 hg25 hb25 hAi hA19 HSZ HBI hown hszi hb19 hgl hgne k0 k1 k2 k3 hsz25 hdr25 hl19 hin hil hbl
    generalize w25.setCell ⟨w.heap.size + 1 + 1, 1, none⟩ (.slice (some ⟨g, 0, none⟩) 2 cap) = w26 at *
    have hbm : Below w26.heap.size w26 (w26.alloc (.cells #[.string ⟨#[97]⟩, .slice none 0 0, .int .i64 0, .bool true] 29)) := (Below.refl _ _).alloc (Nat.le_refl _) _
    have D2 := (hbm.block _ hw26).trans C2
    have y2 : (w26.alloc (.cells #[.string ⟨#[97]⟩, .slice none 0 0, .int .i64 0, .bool true] 29)).cell? ⟨w.heap.size + 1 + 1, 2, none⟩ = some (.slice none 0 0) := (cell_of_row _ (w.heap.size + 1 + 1) 2 _ 26 (0, 0) D2).trans rfl
    have fz2 : (w26.alloc (.cells #[.string ⟨#[97]⟩, .slice none 0 0, .int .i64 0, .bool true] 29)).frozen? ⟨w.heap.size + 1 + 1, 2, none⟩ = false := blk_frozen D2 2
    go_upto_region 15 with fail
    have far2 : ∀ j, j ≠ w.heap.size + 1 + 1 → (w26.setCell ⟨w.heap.size + 1 + 1, 2, none⟩ (.slice (some ⟨w26.heap.size, 0, none⟩) 1 1)).heap[j]? = w26.heap[j]? := fun j hj => by rw [Below.heap_setCell _ _ _ _ (fun e => hj e)]
    have F0 := (far2 w.heap.size (by omega)).trans C0
    have Fi := (far2 w23.heap.size (by omega)).trans Ci
    have F2 := blk_setC C2 2 (.slice (some ⟨w26.heap.size, 0, none⟩) 1 1)
    have Fg : ∀ (k : Nat) u, (row3 w.heap.size w23.heap.size)[k]? = some u → (w26.setCell ⟨w.heap.size + 1 + 1, 2, none⟩ (.slice (some ⟨w26.heap.size, 0, none⟩) 1 1)).cell? ⟨g, k, none⟩ = some u := fun k u hu =>
      (World.cell?_setCell_other _ _ _ _ (fun h => HG.out (by injection h))).trans (Cg k u hu)
    have hb27 : Below w.heap.size w (w26.setCell ⟨w.heap.size + 1 + 1, 2, none⟩ (.slice (some ⟨w26.heap.size, 0, none⟩) 1 1)) := hb26.setCell (by show w.heap.size ≤ w.heap.size + 1 + 1; omega) _
    have hs27 : (w26.setCell ⟨w.heap.size + 1 + 1, 2, none⟩ (.slice (some ⟨w26.heap.size, 0, none⟩) 1 1)).heap.size = w26.heap.size := by simp [World.setCell]
    clear far2 C0 Ci C2 Cg hb26 hbm D2 y2 fz2
    generalize w26.setCell ⟨w.heap.size + 1 + 1, 2, none⟩ (.slice (some ⟨w26.heap.size, 0, none⟩) 1 1) = w27 at *
    have hbm : Below w27.heap.size w27 (w27.alloc (.cells #[.string ⟨#[97]⟩, .slice none 0 0, .int .i64 0, .bool true] 29)) := (Below.refl _ _).alloc (Nat.le_refl _) _
    have hA3' : At3 (w27.alloc (.cells #[.string ⟨#[97]⟩, .slice none 0 0, .int .i64 0, .bool true] 29)) w.heap.size w23.heap.size g cap w26.heap.size :=
      ⟨blk_up F0, blk_up Fi, fun k u hu => alloc_keep (Fg k u hu) _, hcap, blk_new _ hs27⟩
    have H3 := Lib.hid hA3'
    have G2 := blk_up (o := .cells #[.string ⟨#[97]⟩, .slice none 0 0, .int .i64 0, .bool true] 29) F2
    have hb28 := hb27.trans (hbm.mono hb27.size)
    clear F0 Fi F2 Fg hb27 hs27 hA3' hbm
    generalize w27.alloc (.cells #[.string ⟨#[97]⟩, .slice none 0 0, .int .i64 0, .bool true] 29) = w28 at *
    have k0 : w28.cell? ⟨w.heap.size + 1 + 1, 0, none⟩ = some (.int .i64 0) := (cell_of_row _ (w.heap.size + 1 + 1) 0 _ 26 (0, 0) G2).trans rfl
    have k1 : w28.cell? ⟨w.heap.size + 1 + 1, 1, none⟩ = some (.slice (some ⟨g, 0, none⟩) 2 cap) := (cell_of_row _ (w.heap.size + 1 + 1) 1 _ 26 (0, 0) G2).trans rfl
    have k2 : w28.cell? ⟨w.heap.size + 1 + 1, 2, none⟩ = some (.slice (some ⟨w26.heap.size, 0, none⟩) 1 1) := (cell_of_row _ (w.heap.size + 1 + 1) 2 _ 26 (0, 0) G2).trans rfl
    have k3 : w28.cell? ⟨w.heap.size + 1 + 1, 3, none⟩ = some (.slice none 0 0) := (cell_of_row _ (w.heap.size + 1 + 1) 3 _ 26 (0, 0) G2).trans rfl
    have hl28 : w.heap.size + 1 + 1 < w28.heap.size := blk_lt G2
    have HB := Lib.hid (c_faults3 H3.out)
    clear G2
    go_wp2_with fail
    refine HB.out.mono ?_
    rintro e w29 ⟨v29, rfl, hr29, hb29⟩
    have q0 := (hb29.cell (p := ⟨w.heap.size + 1 + 1, 0, none⟩) hl28).trans k0
    have q1 := (hb29.cell (p := ⟨w.heap.size + 1 + 1, 1, none⟩) hl28).trans k1
    have q2 := (hb29.cell (p := ⟨w.heap.size + 1 + 1, 2, none⟩) hl28).trans k2
    have q3 := (hb29.cell (p := ⟨w.heap.size + 1 + 1, 3, none⟩) hl28).trans k3
    have H4 := Lib.hid (H3.out.next hb29)
    have hb30 := hb28.trans (hb29.mono hb28.size)
    have hbx : Below w29.heap.size w29 (w29.alloc (.cells #[.int .i64 1, .int .i64 210, .int .i64 2, .int .i64 213] 75)) := (Below.refl _ _).alloc (Nat.le_refl _) _
    have hrl : IsRows (w29.alloc (.cells #[.int .i64 1, .int .i64 210, .int .i64 2, .int .i64 213] 75)) (w29.alloc (.cells #[.int .i64 1, .int .i64 210, .int .i64 2, .int .i64 213] 75)).heap.size 2 (.slice (some ⟨w29.heap.size, 0, none⟩) 2 2) 2 (EncCells encFa [((1 : Int), (210 : Int)), (2, 213)]) :=
      rows_of_block (heap_alloc_new w29 _) (by simp) (by decide) (by decide) (idx2 ⟨_, ⟨by simp, rfl⟩, fun j u hu => by match j, hu with | 0, hu => exact hu | 1, hu => exact hu⟩ ⟨_, ⟨by simp, rfl⟩, fun j u hu => by match j, hu with | 0, hu => exact hu | 1, hu => exact hu⟩)
    have HQ := Lib.hid (sameFaults_yes v29 (.slice (some ⟨w29.heap.size, 0, none⟩) 2 2) [((1 : Int), (210 : Int)), (2, 213)] _ _ _ (rows_keep hr29 hbx) hrl)
    have hl29 : w.heap.size + 1 + 1 < w29.heap.size := World.block_lt_of_cell? _ _ q0
    have p0 := (hbx.cell (p := ⟨w.heap.size + 1 + 1, 0, none⟩) hl29).trans q0
    have p1 := (hbx.cell (p := ⟨w.heap.size + 1 + 1, 1, none⟩) hl29).trans q1
    have p2 := (hbx.cell (p := ⟨w.heap.size + 1 + 1, 2, none⟩) hl29).trans q2
    have p3 := (hbx.cell (p := ⟨w.heap.size + 1 + 1, 3, none⟩) hl29).trans q3
    have H5 := Lib.hid (H4.out.next hbx)
    have hb31 := hb30.trans (hbx.mono hb30.size)
    clear HB k0 k1 k2 k3 q0 q1 q2 q3 H3 H4 hb28 hb29 hb30 hr29 hrl hl28 hl29
    go_wp2_with fail
    refine HQ.out.mono ?_
    generalize w29.alloc (.cells #[.int .i64 1, .int .i64 210, .int .i64 2, .int .i64 213] 75) = w30 at *
    rintro e w' ⟨rfl, d, rfl⟩
    have H6 : At3 (w30.drewN d) w.heap.size w23.heap.size g cap w26.heap.size := ⟨H5.out.b0, H5.out.bi, H5.out.bg, H5.out.hc, H5.out.bm⟩
    have H6 := Lib.hid H6
    have hb32 := below_drewN hb31 d
    have k0 : (w30.drewN d).cell? ⟨w.heap.size + 1 + 1, 0, none⟩ = some (.int .i64 0) := p0
    have k1 : (w30.drewN d).cell? ⟨w.heap.size + 1 + 1, 1, none⟩ = some (.slice (some ⟨g, 0, none⟩) 2 cap) := p1
    have k2 : (w30.drewN d).cell? ⟨w.heap.size + 1 + 1, 2, none⟩ = some (.slice (some ⟨w26.heap.size, 0, none⟩) 1 1) := p2
    have k3 : (w30.drewN d).cell? ⟨w.heap.size + 1 + 1, 3, none⟩ = some (.slice none 0 0) := p3
    clear HQ hbx p0 p1 p2 p3 H5 hb31
    generalize w30.drewN d = w31 at *
    have HK := Lib.hid (c_kept3 H6.out)
    go_wp2_with fail
    refine HK.out.mono ?_
    rintro e w32 ⟨⟨A32, c32, rfl⟩, hb33⟩
    go_wp2
    go_ret
    exact ⟨rfl, hb32.trans (hb33.mono hb32.size)⟩
end Go.Proofs.YtjeafniglnnkhaaGreatDoor
