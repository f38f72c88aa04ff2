/- Walks: image.flies, image.session, image.Check of an image of one session with nothing but a client. -/
import Derived.Test.YtjeafniglnnkhaaGreatDoorHF3
import Derived.Test.YtjeafniglnnkhaaGreatDoorHA1
namespace Go.Proofs.YtjeafniglnnkhaaGreatDoor
open Go.RowKit Go.Maps

set_option maxHeartbeats 1000000 in
theorem imFlies_none (w : World) : Calls Tryz.prog 142 #[.agg #[.int .i64 0, .slice none 0 0, .slice none 0 0]] w fun e w' => e = .returned (.bool true) ∧ Below w.heap.size w w' := by
  have c0 := box_cell w #[.int .i64 0, .slice none 0 0, .slice none 0 0] 44 0 (u := .int .i64 0) rfl
  have c1 := box_cell w #[.int .i64 0, .slice none 0 0, .slice none 0 0] 44 1 (u := .slice none 0 0) rfl
  have c2 := box_cell w #[.int .i64 0, .slice none 0 0, .slice none 0 0] 44 2 (u := .slice none 0 0) rfl
  have hb0 : Below w.heap.size w (w.alloc (.cells #[.int .i64 0, .slice none 0 0, .slice none 0 0] 44)) := (Below.refl _ _).alloc (Nat.le_refl _) _
  have hsz : w.heap.size < (w.alloc (.cells #[.int .i64 0, .slice none 0 0, .slice none 0 0] 44)).heap.size := by simp
  go_enter Tryz.func142, Tryz.ntmps142
  go_wp2_with fail
  generalize w.alloc (.cells #[.int .i64 0, .slice none 0 0, .slice none 0 0] 44) = w1 at *
  refine (winOf_none w1).mono ?_
  rintro e w2 ⟨⟨v, rfl⟩, hb2⟩
  have d1 := (hb2.cell (p := ⟨w.heap.size, 1, none⟩) hsz).trans c1
  have d2 := (hb2.cell (p := ⟨w.heap.size, 2, none⟩) hsz).trans c2
  have hb02 := hb0.trans (hb2.mono hb0.size)
  clear c0 c1 c2
  go_wp2_with fail
  refine wp_loop_rounds 1 ?_
  rw [rounds_succ]
  go_wp2_with fail
  refine (msgHas_none _ w2).mono ?_
  rintro e w' ⟨rfl, hw⟩
  rw [hw]
  clear hw w'
  go_wp2
  go_ret
  exact ⟨rfl, hb02⟩

set_option maxHeartbeats 1000000 in
theorem imSession_none (c : ByteArray) (w : World) : Calls Tryz.prog 98 #[.agg #[.string c, .slice none 0 0, .int .i64 0, .slice none 0 0, .slice none 0 0, .slice none 0 0]] w fun e w' => e = .returned (.int .i64 0) ∧ Below w.heap.size w w' := by
  have c0 := box_cell w #[.string c, .slice none 0 0, .int .i64 0, .slice none 0 0, .slice none 0 0, .slice none 0 0] 47 1 (u := .slice none 0 0) rfl
  have c1 := box_cell w #[.string c, .slice none 0 0, .int .i64 0, .slice none 0 0, .slice none 0 0, .slice none 0 0] 47 2 (u := .int .i64 0) rfl
  have c2 := box_cell w #[.string c, .slice none 0 0, .int .i64 0, .slice none 0 0, .slice none 0 0, .slice none 0 0] 47 3 (u := .slice none 0 0) rfl
  have c3 := box_cell w #[.string c, .slice none 0 0, .int .i64 0, .slice none 0 0, .slice none 0 0, .slice none 0 0] 47 4 (u := .slice none 0 0) rfl
  have c4 := box_cell w #[.string c, .slice none 0 0, .int .i64 0, .slice none 0 0, .slice none 0 0, .slice none 0 0] 47 5 (u := .slice none 0 0) rfl
  have hb0 : Below w.heap.size w (w.alloc (.cells #[.string c, .slice none 0 0, .int .i64 0, .slice none 0 0, .slice none 0 0, .slice none 0 0] 47)) := (Below.refl _ _).alloc (Nat.le_refl _) _
  have hsz : w.heap.size < (w.alloc (.cells #[.string c, .slice none 0 0, .int .i64 0, .slice none 0 0, .slice none 0 0, .slice none 0 0] 47)).heap.size := by simp
  go_enter Tryz.func98, Tryz.ntmps98
  go_wp2_with fail
  generalize w.alloc (.cells #[.string c, .slice none 0 0, .int .i64 0, .slice none 0 0, .slice none 0 0, .slice none 0 0] 47) = w1 at *
  refine (subs_none w1).mono ?_
  rintro e w' ⟨rfl, hw⟩
  rw [hw]
  clear hw w'
  go_wp2_with fail
  refine (imFlies_none w1).mono ?_
  rintro e w2 ⟨rfl, hb2⟩
  have d4 := (hb2.cell (p := ⟨w.heap.size, 5, none⟩) hsz).trans c4
  have hb02 := hb0.trans (hb2.mono hb0.size)
  clear c0 c1 c2 c3 c4
  go_wp2_with fail
  refine (inbox_none w2).mono ?_
  rintro e w' ⟨rfl, hw⟩
  rw [hw]
  clear hw w'
  go_wp2
  go_ret
  exact ⟨rfl, hb02⟩

/-- The cells of a session with nothing but a client. -/
structure BareAt (w : World) (b o : Nat) (c : ByteArray) : Prop where
  c0 : w.cell? ⟨b, o, none⟩ = some (.string c)
  c1 : w.cell? ⟨b, o + 1, none⟩ = some (.slice none 0 0)
  c2 : w.cell? ⟨b, o + 2, none⟩ = some (.int .i64 0)
  c3 : w.cell? ⟨b, o + 3, none⟩ = some (.slice none 0 0)
  c4 : w.cell? ⟨b, o + 4, none⟩ = some (.slice none 0 0)
  c5 : w.cell? ⟨b, o + 5, none⟩ = some (.slice none 0 0)

theorem BareAt.below {w w' : World} {b o B : Nat} {c : ByteArray} (h : BareAt w b o c) (hb : Below B w w') (hB : b < B) : BareAt w' b o c :=
  ⟨(hb.cell (p := ⟨b, _, none⟩) hB).trans h.c0, (hb.cell (p := ⟨b, _, none⟩) hB).trans h.c1, (hb.cell (p := ⟨b, _, none⟩) hB).trans h.c2, (hb.cell (p := ⟨b, _, none⟩) hB).trans h.c3, (hb.cell (p := ⟨b, _, none⟩) hB).trans h.c4, (hb.cell (p := ⟨b, _, none⟩) hB).trans h.c5⟩

theorem bare_box (w : World) (c : ByteArray) : BareAt (w.alloc (.cells #[.string c, .slice none 0 0, .int .i64 0, .slice none 0 0, .slice none 0 0, .slice none 0 0] 47)) w.heap.size 0 c :=
  ⟨box_cell w _ 47 0 rfl, box_cell w _ 47 1 rfl, box_cell w _ 47 2 rfl, box_cell w _ 47 3 rfl, box_cell w _ 47 4 rfl, box_cell w _ 47 5 rfl⟩

set_option maxRecDepth 100000 in
set_option maxHeartbeats 2000000 in
theorem imCheck_one (c : ByteArray) (b o cap : Nat) (w : World) (h : BareAt w b o c) (hc : checkS c = (0, 0)) (he : c.toList.isEmpty = false) :
    Calls Tryz.prog 71 #[.agg #[.int .i64 0, .slice (some ⟨b, o, none⟩) 1 cap, .slice none 0 0, .slice none 0 0]] w fun e w' => e = .returned (.tuple #[.int .i64 0, .int .i64 0]) ∧ Below w.heap.size w w' := by
  have HC := fun W => Lib.hid (show Calls Tryz.prog 91 #[.string c] W fun e w' => e = .returned (.tuple #[.int .i64 0, .int .i64 0]) ∧ Below W.heap.size W w' by have h := check_any c W; rw [hc] at h; exact h)
  have hbl := World.block_lt_of_cell? w _ h.c0
  have hb0 : Below w.heap.size w (w.alloc (.cells #[.int .i64 0, .slice (some ⟨b, o, none⟩) 1 cap, .slice none 0 0, .slice none 0 0] 26)) := (Below.refl _ _).alloc (Nat.le_refl _) _
  have hsz : w.heap.size < (w.alloc (.cells #[.int .i64 0, .slice (some ⟨b, o, none⟩) 1 cap, .slice none 0 0, .slice none 0 0] 26)).heap.size := by simp
  have i0 := box_cell w #[.int .i64 0, .slice (some ⟨b, o, none⟩) 1 cap, .slice none 0 0, .slice none 0 0] 26 0 (u := .int .i64 0) rfl
  have i1 := box_cell w #[.int .i64 0, .slice (some ⟨b, o, none⟩) 1 cap, .slice none 0 0, .slice none 0 0] 26 1 (u := .slice (some ⟨b, o, none⟩) 1 cap) rfl
  have i2 := box_cell w #[.int .i64 0, .slice (some ⟨b, o, none⟩) 1 cap, .slice none 0 0, .slice none 0 0] 26 2 (u := .slice none 0 0) rfl
  have i3 := box_cell w #[.int .i64 0, .slice (some ⟨b, o, none⟩) 1 cap, .slice none 0 0, .slice none 0 0] 26 3 (u := .slice none 0 0) rfl
  obtain ⟨s0, s1, s2, s3, s4, s5⟩ := h.below hb0 hbl
  clear h hc
  go_enter Tryz.func71, Tryz.ntmps71
  go_wp2_with fail
  generalize w.alloc (.cells #[.int .i64 0, .slice (some ⟨b, o, none⟩) 1 cap, .slice none 0 0, .slice none 0 0] 26) = w1 at *
  refine wp_loop_rounds 2 ?_
  rw [rounds_succ]
  have hb1 : Below w1.heap.size w1 (w1.alloc (.cells #[.string c, .slice none 0 0, .int .i64 0, .slice none 0 0, .slice none 0 0, .slice none 0 0] 47)) := (Below.refl _ _).alloc (Nat.le_refl _) _
  have hsz1 : w1.heap.size < (w1.alloc (.cells #[.string c, .slice none 0 0, .int .i64 0, .slice none 0 0, .slice none 0 0, .slice none 0 0] 47)).heap.size := by simp
  have hB1 := bare_box w1 c
  have hB := Lib.hid hB1
  obtain ⟨t0, t1, t2, t3, t4, t5⟩ := hB1
  go_wp2_with fail
  generalize w1.alloc (.cells #[.string c, .slice none 0 0, .int .i64 0, .slice none 0 0, .slice none 0 0, .slice none 0 0] 47) = w2 at *
  have HI := Lib.hid (And.intro i1 (And.intro i2 i3))
  have HS := Lib.hid (BareAt.mk s0 s1 s2 s3 s4 s5)
  clear t0 t1 t2 t3 t4 t5 s0 s1 s2 s3 s4 s5 i0 i1 i2 i3
  refine (HC w2).out.mono ?_
  rintro e w3 ⟨rfl, hb3⟩
  obtain ⟨t0, t1, t2, t3, t4, t5⟩ := hB.out.below hb3 hsz1
  have hb13 := hb1.trans (hb3.mono hb1.size)
  have i1 := (hb13.cell (p := ⟨w.heap.size, 1, none⟩) hsz).trans HI.out.1
  have i2 := (hb13.cell (p := ⟨w.heap.size, 2, none⟩) hsz).trans HI.out.2.1
  have i3 := (hb13.cell (p := ⟨w.heap.size, 3, none⟩) hsz).trans HI.out.2.2
  clear hb1 hb3
  go_wp2_with fail
  go_quiet (fail)
  go_wp2_with fail
  refine (imSession_none c _).mono ?_
  rintro e w4 ⟨rfl, hb4⟩
  have hb14 : Below w1.heap.size w1 w4 := (below_drewN hb13 nq).trans (hb4.mono (by show w1.heap.size ≤ w3.heap.size; exact hb13.size))
  have j1 := (hb14.cell (p := ⟨w.heap.size, 1, none⟩) hsz).trans HI.out.1
  have j2 := (hb14.cell (p := ⟨w.heap.size, 2, none⟩) hsz).trans HI.out.2.1
  have j3 := (hb14.cell (p := ⟨w.heap.size, 3, none⟩) hsz).trans HI.out.2.2
  have hbw1 : b < w1.heap.size := by omega
  obtain ⟨s0, s1, s2, s3, s4, s5⟩ := HS.out.below hb14 hbw1
  have hbl4 : b < w4.heap.size := World.block_lt_of_cell? _ _ s0
  have hwl4 : w.heap.size < w4.heap.size := World.block_lt_of_cell? _ _ j1
  have hb04 := hb0.trans (hb14.mono hb0.size)
  clear t0 t1 t2 t3 t4 t5 i1 i2 i3 hb13 hb14 hb4
  go_wp2_with fail
  rw [rounds_succ]
  have hb5 : Below w4.heap.size w4 (w4.alloc (.map #[] 0)) := (Below.refl _ _).alloc (Nat.le_refl _) _
  have k1 := (hb5.cell (p := ⟨w.heap.size, 1, none⟩) hwl4).trans j1
  have k3 := (hb5.cell (p := ⟨w.heap.size, 3, none⟩) hwl4).trans j3
  obtain ⟨q0, q1, q2, q3, q4, q5⟩ := (BareAt.mk s0 s1 s2 s3 s4 s5).below hb5 hbl4
  have hmm := @run_makeMap Tryz.prog
  go_wp2_with fail
  refine wp_loop_rounds 1 ?_
  rw [rounds_succ]
  go_wp2_with fail
  generalize w4.alloc (.map #[] 0) = w5 at *
  clear s0 s1 s2 s3 s4 s5 j1 j2 j3 hmm
  refine wp_loop_rounds 2 ?_
  rw [rounds_succ]
  obtain ⟨t0, t1, t2, t3, t4, t5⟩ := bare_box w5 c
  have g1 := alloc_keep k1 (.cells #[.string c, .slice none 0 0, .int .i64 0, .slice none 0 0, .slice none 0 0, .slice none 0 0] 47)
  have g3 := alloc_keep k3 (.cells #[.string c, .slice none 0 0, .int .i64 0, .slice none 0 0, .slice none 0 0, .slice none 0 0] 47)
  have hb6 : Below w5.heap.size w5 (w5.alloc (.cells #[.string c, .slice none 0 0, .int .i64 0, .slice none 0 0, .slice none 0 0, .slice none 0 0] 47)) := (Below.refl _ _).alloc (Nat.le_refl _) _
  have hb06 := (hb04.trans (hb5.mono hb04.size)).trans (hb6.mono (by have := hb04.size; have := hb5.size; omega))
  go_wp2_with fail
  generalize w5.alloc (.cells #[.string c, .slice none 0 0, .int .i64 0, .slice none 0 0, .slice none 0 0, .slice none 0 0] 47) = w6 at *
  refine wp_loop_rounds 1 ?_
  rw [rounds_succ]
  go_wp2_with fail
  rw [rounds_succ]
  go_wp2_with fail
  refine wp_loop_rounds 1 ?_
  rw [rounds_succ]
  go_wp2
  go_ret2
  exact ⟨rfl, hb06⟩
end Go.Proofs.YtjeafniglnnkhaaGreatDoor
