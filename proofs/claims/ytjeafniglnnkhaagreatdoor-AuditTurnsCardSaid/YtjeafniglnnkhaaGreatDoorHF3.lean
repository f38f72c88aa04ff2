/- Walk: found.window of a window with nothing. -/
/- Walks: image.session, and what it calls, of a session with nothing but a client. -/
import Derived.Test.YtjeafniglnnkhaaGreatDoorHF2
import Derived.Test.YtjeafniglnnkhaaGreatDoorHB5
namespace Go.Proofs.YtjeafniglnnkhaaGreatDoor
open Go.RowKit Go.Maps

theorem grown_trans {a b c : World} {r : Option Nat} (h : a.grownBy b r) (h' : b.grownBy c r) : a.grownBy c r :=
  ⟨h'.os.trans h.os, h'.tape.trans h.tape, h'.output.trans h.output, Nat.le_trans h.size h'.size, fun k hk hne => (h'.block k (Nat.lt_of_lt_of_le hk h.size) hne).trans (h.block k hk hne)⟩
theorem grown_alloc (w : World) (o : Obj) (r : Option Nat) : w.grownBy (w.alloc o) r := World.grownBy_alloc w o r
theorem grown_below {w w' : World} (hb : Below w.heap.size w w') (r : Option Nat) : w.grownBy w' r := ⟨hb.os, hb.tape, hb.output, hb.size, fun k hk _ => hb.block k hk⟩
theorem grown_refl (w : World) (r : Option Nat) : w.grownBy w r := ⟨rfl, rfl, rfl, Nat.le_refl _, fun _ _ _ => rfl⟩

set_option maxHeartbeats 1000000 in
theorem window_none (b N : Nat) (o : Option Int) (w : World) (h : Found w b o N) (hN : N ≤ 100000) :
    Calls Tryz.prog 72 #[.map (some b), .agg #[.int .i64 0, .slice none 0 0, .slice none 0 0]] w fun e w' => e = .returned (.tuple #[]) ∧ Found w' b o (N + 1) ∧ w.grownBy w' (some b) := by
  have HF := Lib.hid h
  have c0 := box_cell w #[.int .i64 0, .slice none 0 0, .slice none 0 0] 44 0 (u := .int .i64 0) rfl
  have c1 := box_cell w #[.int .i64 0, .slice none 0 0, .slice none 0 0] 44 1 (u := .slice none 0 0) rfl
  have c2 := box_cell w #[.int .i64 0, .slice none 0 0, .slice none 0 0] 44 2 (u := .slice none 0 0) rfl
  have hg0 := grown_alloc w (.cells #[.int .i64 0, .slice none 0 0, .slice none 0 0] 44) (some b)
  have HF0 := Lib.hid (h.alloc (.cells #[.int .i64 0, .slice none 0 0, .slice none 0 0] 44))
  have hlt := h.lt
  have hsz : w.heap.size < (w.alloc (.cells #[.int .i64 0, .slice none 0 0, .slice none 0 0] 44)).heap.size := by simp
  clear h
  go_enter Tryz.func72, Tryz.ntmps72
  go_wp2_with fail
  generalize w.alloc (.cells #[.int .i64 0, .slice none 0 0, .slice none 0 0] 44) = w1 at *
  refine (note_any b N 214 o false w1 HF0.out (by simp) (by omega) (by decide) (by decide)).mono ?_
  rintro e w2 ⟨rfl, hF2, hg2⟩
  have hne : some w.heap.size ≠ some b := fun e => by injection e with e; omega
  have k0 := (World.cell?_of_block (a := ⟨w.heap.size, 0, none⟩) (hg2.block w.heap.size hsz hne)).trans c0
  have k1 := (World.cell?_of_block (a := ⟨w.heap.size, 1, none⟩) (hg2.block w.heap.size hsz hne)).trans c1
  have k2 := (World.cell?_of_block (a := ⟨w.heap.size, 2, none⟩) (hg2.block w.heap.size hsz hne)).trans c2
  have hmm := @run_makeMap Tryz.prog
  have d0 := alloc_keep k0 (.map #[] 0)
  have d1 := alloc_keep k1 (.map #[] 0)
  have d2 := alloc_keep k2 (.map #[] 0)
  have hg3 := grown_alloc w2 (.map #[] 0) (some b)
  have HF3 := Lib.hid (hF2.alloc (.map #[] 0))
  have HG := Lib.hid (grown_trans (grown_trans hg0 hg2) hg3)
  clear hF2 hg0 hg2 hg3 c0 c1 c2 k0 k1 k2
  go_wp2
  refine wp_loop_rounds 1 ?_
  rw [rounds_succ]
  go_wp2
  refine wp_loop_rounds 1 ?_
  rw [rounds_succ]
  go_wp2
  go_end0
  exact ⟨rfl, HF3.out, HG.out⟩
end Go.Proofs.YtjeafniglnnkhaaGreatDoor

namespace Go.Proofs.YtjeafniglnnkhaaGreatDoor
open Go.RowKit Go.Maps

theorem subs_none (w : World) : Calls Tryz.prog 141 #[.slice none 0 0] w fun e w' => e = .returned (.bool true) ∧ w' = w := by
  go_enter Tryz.func141, Tryz.ntmps141
  go_wp2
  refine wp_loop_rounds 1 ?_
  rw [rounds_succ]
  go_wp2
  go_ret
  exact ⟨rfl, rfl⟩

theorem inbox_none (w : World) : Calls Tryz.prog 143 #[.slice none 0 0] w fun e w' => e = .returned (.bool true) ∧ w' = w := by
  go_enter Tryz.func143, Tryz.ntmps143
  go_wp2
  refine wp_loop_rounds 1 ?_
  rw [rounds_succ]
  go_wp2
  go_ret
  exact ⟨rfl, rfl⟩

theorem msgIdx_none (fv : Value) (w : World) : Calls Tryz.prog 205 #[.slice none 0 0, fv] w fun e w' => e = .returned (.int .i64 (-1)) ∧ w' = w := by
  go_enter Tryz.func205, Tryz.ntmps205
  go_wp2
  refine wp_loop_rounds 1 ?_
  rw [rounds_succ]
  go_wp2
  go_ret
  exact ⟨rfl, rfl⟩

theorem msgHas_none (fv : Value) (w : World) : Calls Tryz.prog 177 #[.slice none 0 0, fv] w fun e w' => e = .returned (.bool false) ∧ w' = w := by
  go_enter Tryz.func177, Tryz.ntmps177
  go_wp2_with fail
  refine (msgIdx_none fv w).mono ?_
  rintro e w' ⟨rfl, hw⟩
  rw [hw]
  clear hw w'
  go_wp2
  go_ret
  exact ⟨rfl, rfl⟩

/-- The cells of a window that was just made. -/
structure WinAt (w : World) (b : Nat) (k : Nat) : Prop where
  blk : w.heap[b]? = some (.cells #[.int .i64 65535, .int .i64 65536, .int .i64 0, .slice none 0 0, .slice none 0 0, .map (some k), .bool false] 246 (0, 0))

set_option maxHeartbeats 400000 in
theorem newWin (w : World) : Calls Tryz.prog 200 #[.int .i64 65535, .int .i64 65536] w fun e w' => ∃ b k, e = .returned (.pointer (some ⟨b, 0, none⟩)) ∧ WinAt w' b k ∧ w.heap.size ≤ b ∧ Below w.heap.size w w' := by
  have hmm := @run_makeMap Tryz.prog
  go_enter Tryz.func200, Tryz.ntmps200
  go_wp2
  go_ret
  refine ⟨_, w.heap.size, rfl, ⟨?_⟩, ?_, ((Below.refl _ _).alloc (Nat.le_refl _) _).alloc (by simp) _⟩
  · have := heap_alloc_new (w.alloc (.map #[] 0)) (.cells #[.int .i64 65535, .int .i64 65536, .int .i64 0, .slice none 0 0, .slice none 0 0, .map (some w.heap.size), .bool false] 246)
    simpa using this
  · simp

set_option maxHeartbeats 1000000 in
theorem winOf_none (w : World) : Calls Tryz.prog 176 #[.int .i64 65535, .int .i64 65536, .agg #[.int .i64 0, .slice none 0 0, .slice none 0 0]] w fun e w' => (∃ v, e = .returned (.tuple #[v, .int .i64 0])) ∧ Below w.heap.size w w' := by
  have c0 := box_cell w #[.int .i64 0, .slice none 0 0, .slice none 0 0] 44 0 (u := .int .i64 0) rfl
  have c1 := box_cell w #[.int .i64 0, .slice none 0 0, .slice none 0 0] 44 1 (u := .slice none 0 0) rfl
  have c2 := box_cell w #[.int .i64 0, .slice none 0 0, .slice none 0 0] 44 2 (u := .slice none 0 0) rfl
  have hb0 : Below w.heap.size w (w.alloc (.cells #[.int .i64 0, .slice none 0 0, .slice none 0 0] 44)) := (Below.refl _ _).alloc (Nat.le_refl _) _
  have hsz : w.heap.size < (w.alloc (.cells #[.int .i64 0, .slice none 0 0, .slice none 0 0] 44)).heap.size := by simp
  go_enter Tryz.func176, Tryz.ntmps176
  go_wp2_with fail
  generalize w.alloc (.cells #[.int .i64 0, .slice none 0 0, .slice none 0 0] 44) = w1 at *
  refine (newWin w1).mono ?_
  rintro e w2 ⟨b, k, rfl, ⟨hblk⟩, hb, hb2⟩
  have d0 := (hb2.cell (p := ⟨w.heap.size, 0, none⟩) hsz).trans c0
  have d1 := (hb2.cell (p := ⟨w.heap.size, 1, none⟩) hsz).trans c1
  have d2 := (hb2.cell (p := ⟨w.heap.size, 2, none⟩) hsz).trans c2
  have hb02 := hb0.trans (hb2.mono hb0.size)
  have hfz : w2.frozen? ⟨b, 2, none⟩ = false := by simp [World.frozen?, hblk]
  have x2 : w2.cell? ⟨b, 2, none⟩ = some (.int .i64 0) := (cell_of_row w2 b 2 _ 246 (0, 0) hblk).trans rfl
  have hne : b ≠ w.heap.size := by omega
  have e0 : (w2.setCell ⟨b, 2, none⟩ (.int .i64 0)).cell? ⟨w.heap.size, 0, none⟩ = some (.int .i64 0) := (World.cell?_setCell_other _ _ _ _ (fun h => hne (by injection h))).trans d0
  have e1 : (w2.setCell ⟨b, 2, none⟩ (.int .i64 0)).cell? ⟨w.heap.size, 1, none⟩ = some (.slice none 0 0) := (World.cell?_setCell_other _ _ _ _ (fun h => hne (by injection h))).trans d1
  have e2 : (w2.setCell ⟨b, 2, none⟩ (.int .i64 0)).cell? ⟨w.heap.size, 2, none⟩ = some (.slice none 0 0) := (World.cell?_setCell_other _ _ _ _ (fun h => hne (by injection h))).trans d2
  have hb3 : Below w.heap.size w (w2.setCell ⟨b, 2, none⟩ (.int .i64 0)) := hb02.setCell (by show w.heap.size ≤ b; omega) _
  have hblk3 : (w2.setCell ⟨b, 2, none⟩ (.int .i64 0)).heap[b]? = some (.cells #[.int .i64 65535, .int .i64 65536, .int .i64 0, .slice none 0 0, .slice none 0 0, .map (some k), .bool false] 246 (0, 0)) := by
    simp [World.setCell, Array.getElem?_modify, hblk]
  clear c0 c1 c2
  go_wp2_with fail
  generalize w2.setCell ⟨b, 2, none⟩ (.int .i64 0) = w3 at *
  have y0 : w3.cell? ⟨b, 0, none⟩ = some (.int .i64 65535) := (cell_of_row w3 b 0 _ 246 (0, 0) hblk3).trans rfl
  have y1 : w3.cell? ⟨b, 1, none⟩ = some (.int .i64 65536) := (cell_of_row w3 b 1 _ 246 (0, 0) hblk3).trans rfl
  have y3 : w3.cell? ⟨b, 3, none⟩ = some (.slice none 0 0) := (cell_of_row w3 b 3 _ 246 (0, 0) hblk3).trans rfl
  have y4 : w3.cell? ⟨b, 4, none⟩ = some (.slice none 0 0) := (cell_of_row w3 b 4 _ 246 (0, 0) hblk3).trans rfl
  clear hblk3 hblk d0 d1 d2 x2 hfz
  refine wp_loop_rounds 1 ?_
  rw [rounds_succ]
  go_wp2_with fail
  refine wp_loop_rounds 1 ?_
  rw [rounds_succ]
  go_wp2_with fail
  go_quiet (fail)
  go_wp2
  go_ret2
  exact ⟨⟨_, rfl⟩, below_drewN hb3 _⟩
end Go.Proofs.YtjeafniglnnkhaaGreatDoor
