/- Walks: the count of parts. -/
import Derived.Test.YtjeafniglnnkhaaGreatDoorHW0
namespace Go.Proofs.YtjeafniglnnkhaaGreatDoor
open Go.RowKit

/-- The count in block b stands at y; nothing else that was there has turned. -/
structure Cnt (w w' : World) (b : Nat) (y : Int) : Prop where
  grown : w.grownBy w' (some b)
  cell : w'.cell? ⟨b, 0, none⟩ = some (.int .i64 y)
  frozen : w'.frozen? ⟨b, 0, none⟩ = false
  lo : -1152921504606846976 ≤ y
  hi : y ≤ 1000000

theorem Cnt.trans {a b c : World} {k : Nat} {x y : Int} (h : Cnt a b k x) (h' : Cnt b c k y) : Cnt a c k y :=
  ⟨⟨h'.grown.os.trans h.grown.os, h'.grown.tape.trans h.grown.tape, h'.grown.output.trans h.grown.output, Nat.le_trans h.grown.size h'.grown.size,
    fun i hi hne => (h'.grown.block i (Nat.lt_of_lt_of_le hi h.grown.size) hne).trans (h.grown.block i hi hne)⟩, h'.cell, h'.frozen, h'.lo, h'.hi⟩

theorem Cnt.refl {w : World} {k : Nat} {x : Int} (hc : w.cell? ⟨k, 0, none⟩ = some (.int .i64 x)) (hf : w.frozen? ⟨k, 0, none⟩ = false) (h0 : -1152921504606846976 ≤ x) (h1 : x ≤ 1000000) : Cnt w w k x :=
  ⟨World.grownBy.refl w _, hc, hf, h0, h1⟩

theorem Cnt.alloc {a w : World} {k : Nat} {x : Int} (h : Cnt a w k x) (o : Obj) : Cnt a (w.alloc o) k x := by
  have hlt : k < w.heap.size := World.block_lt_of_cell? w ⟨k, 0, none⟩ h.cell
  refine ⟨⟨h.grown.os, h.grown.tape, h.grown.output, Nat.le_trans h.grown.size (by simp), fun i hi hne => (heap_alloc_old w o (Nat.lt_of_lt_of_le hi h.grown.size)).trans (h.grown.block i hi hne)⟩, ?_, ?_, h.lo, h.hi⟩
  · rw [World.cell?_of_block (heap_alloc_old w o hlt)]; exact h.cell
  · rw [World.frozen?_of_block (heap_alloc_old w o hlt)]; exact h.frozen

theorem Cnt.set {w : World} {k : Nat} {x : Int} (hc : w.cell? ⟨k, 0, none⟩ = some (.int .i64 x)) (hf : w.frozen? ⟨k, 0, none⟩ = false) (y : Int) (h0 : -1152921504606846976 ≤ y) (h1 : y ≤ 1000000) : Cnt w (w.setCell ⟨k, 0, none⟩ (.int .i64 y)) k y :=
  ⟨⟨rfl, rfl, rfl, by simp [World.setCell], fun i _ hne => Below.heap_setCell _ _ _ _ (fun e => hne (by rw [e]))⟩, World.cell?_setCell_same _ _ _ hc, by rw [World.frozen?_setCell]; exact hf, h0, h1⟩

def AnyBool (e : Ending) : Prop := ∃ r, e = .returned (.bool r)

def addS (x n : Int) : Int := if 0 ≤ x then x - n else x

set_option maxHeartbeats 400000 in
theorem add_any (b : Nat) (x n : Int) (w : World) (h : Cnt w w b x) (h2 : 0 ≤ n) (h3 : n ≤ big) :
    Calls Tryz.prog 43 #[.pointer (some ⟨b, 0, none⟩), .int .i64 n] w fun e w' => AnyBool e ∧ Cnt w w' b (addS x n) := by
  have hc := h.cell
  have hf := h.frozen
  have hlo := h.lo
  have hhi := h.hi
  have h3' : n ≤ 576460752303423488 := h3
  clear h3
  by_cases h0 : 0 ≤ x
  · have H := Lib.hid (show addS x n = x - n by simp [addS, h0])
    clear h
    go_enter Tryz.func43, Tryz.ntmps43
    go_wp2
    go_ret
    exact ⟨⟨_, rfl⟩, by rw [H.out]; exact Cnt.set hc hf _ (by omega) (by omega)⟩
  · have H := Lib.hid (show addS x n = x by simp [addS, h0])
    have h0' : decide (0 ≤ x) = false := by simpa using h0
    have HH := Lib.hid h
    clear h
    go_enter Tryz.func43, Tryz.ntmps43
    go_wp2
    go_ret
    exact ⟨⟨_, rfl⟩, by rw [H.out]; exact HH.out⟩

set_option maxHeartbeats 400000 in
theorem ok_any (b : Nat) (x : Int) (w : World) (h : w.cell? ⟨b, 0, none⟩ = some (.int .i64 x)) :
    Calls Tryz.prog 16 #[.pointer (some ⟨b, 0, none⟩)] w fun e w' => e = .returned (.bool (decide (0 ≤ x))) ∧ w = w' := by
  go_enter Tryz.func16, Tryz.ntmps16
  go_wp2
  go_ret
  exact ⟨rfl, rfl⟩

set_option maxHeartbeats 400000 in
theorem ctext_any (b : Nat) (x : Int) (s : ByteArray) (w : World) (h : Cnt w w b x) (hs : s.size ≤ big) :
    Calls Tryz.prog 15 #[.pointer (some ⟨b, 0, none⟩), .string s] w fun e w' => e = .returned (.tuple #[]) ∧ Cnt w w' b (addS (addS x 1) s.size) := by
  go_enter Tryz.func15, Tryz.ntmps15
  go_wp2_with fail
  refine (add_any b x 1 w h (by omega) (by decide)).mono ?_
  rintro e w1 ⟨⟨r1, rfl⟩, h1⟩
  go_wp2_with fail
  refine (add_any b _ s.size w1 (Cnt.refl h1.cell h1.frozen h1.lo h1.hi) (by omega) (by omega)).mono ?_
  rintro e w2 ⟨⟨r2, rfl⟩, h2⟩
  go_wp2
  go_end0
  exact ⟨rfl, h1.trans h2⟩


theorem addS_le (x n : Int) (hn : 0 ≤ n) : addS x n ≤ x := by unfold addS; split <;> omega
theorem addS_pos {x n : Int} (h : 0 ≤ addS x n) (hn : 0 ≤ n) : 0 ≤ x ∧ addS x n = x - n := by
  unfold addS at *
  split at h
  · rename_i h0; rw [if_pos h0]; exact ⟨h0, rfl⟩
  · omega

/-- What the count says of a text. -/
theorem text_pos {x : Int} {n : Nat} (h : 0 ≤ addS (addS x 1) n) : addS (addS x 1) n = x - 1 - n ∧ 0 ≤ x := by
  obtain ⟨h1, h2⟩ := addS_pos h (by omega)
  obtain ⟨h3, h4⟩ := addS_pos h1 (by omega)
  exact ⟨by rw [h2, h4], h3⟩

def sumAsk (l : List (ByteArray × Int)) : Int := (l.map fun a => (a.1.size : Int) + 1).sum

theorem sumAsk_step {l : List (ByteArray × Int)} {k : Nat} {x y : Int} (H : 0 ≤ y → y = x - sumAsk (l.take k)) (hlt : k < l.length) (h : 0 ≤ addS (addS y 1) l[k].1.size) : addS (addS y 1) l[k].1.size = x - sumAsk (l.take (k + 1)) := by
  obtain ⟨h1, h2⟩ := text_pos h
  rw [h1, H h2, List.take_succ_eq_append_getElem hlt]
  unfold sumAsk
  rw [List.map_append, List.sum_append]
  simp only [List.map_cons, List.map_nil, List.sum_cons, List.sum_nil]
  omega

set_option maxHeartbeats 400000 in
theorem asks_any (b : Nat) (x : Int) (v : Value) (l : List (ByteArray × Int)) (w : World) (h : Cnt w w b x) (B : Nat) (hv : IsRows w B 2 v l.length (AskCells l)) (hB : B ≤ b) (hl : ∀ a ∈ l, a.1.size ≤ big) :
    Calls Tryz.prog 41 #[.pointer (some ⟨b, 0, none⟩), v] w fun e w' => e = .returned (.tuple #[]) ∧ ∃ y, Cnt w w' b y ∧ (0 ≤ y → y = x - sumAsk l) := by
  obtain ⟨A, c, rfl, hc, hn, hA⟩ := hv
  go_enter Tryz.func41, Tryz.ntmps41
  go_wp2
  go_loopw [4] (fun i wr => ∃ (k : Nat) (y : Int), i = .int .i64 k ∧ k ≤ l.length ∧ Cnt w wr b y ∧ Hid (0 ≤ y → y = x - sumAsk (l.take k))) (fun i _ => l.length - (intOf i).toNat)
  case atStart => exact ⟨0, x, rfl, by omega, h, fun _ => by simp [sumAsk]⟩
  case round =>
    obtain ⟨k, y, rfl, hk, hy, HY⟩ := hrel
    have hcy := hy.cell
    by_cases hlt : k < l.length
    · by_cases h0 : 0 ≤ y
      · obtain ⟨bb, oo, rfl, hbb, hcell⟩ := hA (by omega)
        obtain ⟨cs, ⟨hk', rfl⟩, hcs⟩ := hcell k hlt
        have g0 := hcs 0 _ rfl
        simp only [Nat.add_zero] at g0
        have g1 : wr.cell? ⟨bb, oo + k * 2, none⟩ = some (.string l[k].1) := by
          rw [← g0]
          exact World.cell?_of_block (hy.grown.block bb (World.block_lt_of_cell? w ⟨bb, oo + k * 2, none⟩ g0) (fun e => by injection e; omega))
        have hsz : l[k].1.size ≤ big := hl _ (List.getElem_mem hlt)
        clear g0 hcs hcell hA
        go_wp2_with (first | (go_at_call 16; refine (ok_any b y _ hcy).mono ?_; rintro e w' ⟨rfl, rfl⟩) | (go_at_call 15; refine (ctext_any b y l[k].1 _ (Cnt.refl hy.cell hy.frozen hy.lo hy.hi) hsz).mono ?_; rintro e w' ⟨rfl, h1⟩))
        go_roundw
        case rel => exact ⟨k + 1, _, by go_num, by omega, hy.trans h1, sumAsk_step HY.out hlt⟩
        case measure => simp [intOf]; omega
      · have h0' : decide (0 ≤ y) = false := by simpa using h0
        clear hA
        go_wp2_with (first | (go_at_call 16; refine (ok_any b y _ hcy).mono ?_; rintro e w' ⟨rfl, rfl⟩))
        go_end0
        exact ⟨rfl, y, hy, fun h => by omega⟩
    · clear hA
      go_wp2
      go_end0
      refine ⟨rfl, y, hy, fun h => ?_⟩
      have := HY.out h
      rwa [List.take_of_length_le (by omega)] at this

set_option maxHeartbeats 400000 in
theorem cbytes_any (b : Nat) (x : Int) (A : Option Addr) (n c : Nat) (w : World) (h : Cnt w w b x) (hs : n ≤ big) :
    Calls Tryz.prog 45 #[.pointer (some ⟨b, 0, none⟩), .slice A n c] w fun e w' => e = .returned (.tuple #[]) ∧ Cnt w w' b (addS (addS x 1) n) := by
  go_enter Tryz.func45, Tryz.ntmps45
  go_wp2_with fail
  refine (add_any b x 1 w h (by omega) (by decide)).mono ?_
  rintro e w1 ⟨⟨r1, rfl⟩, h1⟩
  go_wp2_with fail
  refine (add_any b _ n w1 (Cnt.refl h1.cell h1.frozen h1.lo h1.hi) (by omega) (by omega)).mono ?_
  rintro e w2 ⟨⟨r2, rfl⟩, h2⟩
  go_wp2
  go_end0
  exact ⟨rfl, h1.trans h2⟩

theorem Cnt.re {w w' : World} {b : Nat} {y : Int} (h : Cnt w w' b y) : Cnt w' w' b y := Cnt.refl h.cell h.frozen h.lo h.hi
theorem Cnt.box {w : World} {b : Nat} {y : Int} (h : Cnt w w b y) (o : Obj) : Cnt (w.alloc o) (w.alloc o) b y := (h.alloc o).re

def MsgCount (w : World) (b : Nat) (x : Int) (n : Nat) (e : Ending) (w' : World) : Prop := e = .returned (.tuple #[]) ∧ ∃ y, Cnt w w' b y ∧ y ≤ x ∧ (0 ≤ y → y + n ≤ x)

set_option maxHeartbeats 400000 in
theorem cmsg_any (b : Nat) (x : Int) (t : ByteArray) (A : Option Addr) (m c : Nat) (q : Int) (r : Bool) (w : World) (h : Cnt w w b x) (ht : t.size ≤ big) (hm : m ≤ big) :
    Calls Tryz.prog 14 #[.pointer (some ⟨b, 0, none⟩), .agg #[.string t, .slice A m c, .int .i64 q, .bool r]] w (MsgCount w b x (t.size + 1)) := by
  have hb := h.box (.cells #[.string t, .slice A m c, .int .i64 q, .bool r] 29)
  have ha := h.alloc (.cells #[.string t, .slice A m c, .int .i64 q, .bool r] 29)
  have hne : b < w.heap.size := World.block_lt_of_cell? w ⟨b, 0, none⟩ h.cell
  go_enter Tryz.func14, Tryz.ntmps14
  go_wp2_with fail
  refine (ctext_any b x t _ hb ht).mono ?_
  rintro e w1 ⟨rfl, h1⟩
  have g1 : w1.cell? ⟨w.heap.size, 1, none⟩ = some (.slice A m c) := by
    rw [World.cell?_of_block (h1.grown.block w.heap.size (by simp) (fun e => by injection e; omega))]
    simp
  go_wp2_with fail
  refine (cbytes_any b _ A m c w1 h1.re hm).mono ?_
  rintro e w2 ⟨rfl, h2⟩
  go_wp2
  go_end0
  refine ⟨rfl, _, (ha.trans h1).trans h2, ?_, fun h0 => ?_⟩
  · have a1 := addS_le (addS (addS (addS x 1) t.size) 1) m (by omega)
    have a2 := addS_le (addS (addS x 1) t.size) 1 (by omega)
    have a3 := addS_le (addS x 1) t.size (by omega)
    have a4 := addS_le x 1 (by omega)
    omega
  · obtain ⟨h3, h4⟩ := text_pos h0
    obtain ⟨h5, h6⟩ := text_pos h4
    omega

set_option maxHeartbeats 400000 in
theorem cmsgs_any (b : Nat) (x : Int) (v : Value) (n : Nat) (w : World) (h : Cnt w w b x) (B : Nat) (hv : IsRows w B 4 v n MsgCells) (hB : B ≤ b) :
    Calls Tryz.prog 44 #[.pointer (some ⟨b, 0, none⟩), v] w (MsgCount w b x 0) := by
  obtain ⟨A, c, rfl, hc, hn, hA⟩ := hv
  go_enter Tryz.func44, Tryz.ntmps44
  go_wp2
  go_loopw [4] (fun i wr => ∃ (k : Nat) (y : Int), i = .int .i64 k ∧ k ≤ n ∧ Cnt w wr b y ∧ y ≤ x) (fun i _ => n - (intOf i).toNat)
  case atStart => exact ⟨0, x, rfl, by omega, h, by omega⟩
  case round =>
    obtain ⟨k, y, rfl, hk, hy, hyx⟩ := hrel
    have hcy := hy.cell
    by_cases hlt : k < n
    · by_cases h0 : 0 ≤ y
      · obtain ⟨bb, oo, rfl, hbb, hcell⟩ := hA (by omega)
        obtain ⟨cs, ⟨t, Ap, m, cp, q, r, rfl, ht, hm⟩, hcs⟩ := hcell k hlt
        have hkeep : ∀ j u, w.cell? ⟨bb, j, none⟩ = some u → wr.cell? ⟨bb, j, none⟩ = some u := fun j u g => by
          rw [← g]
          exact World.cell?_of_block (hy.grown.block bb (World.block_lt_of_cell? w ⟨bb, j, none⟩ g) (fun e => by injection e; omega))
        have g0 := hkeep _ _ (hcs 0 _ rfl)
        have g1 := hkeep _ _ (hcs 1 _ rfl)
        have g2 := hkeep _ _ (hcs 2 _ rfl)
        have g3 := hkeep _ _ (hcs 3 _ rfl)
        simp only [Nat.add_zero] at g0
        clear hkeep hcs hcell hA
        go_wp2_with (first | (go_at_call 16; refine (ok_any b y _ hcy).mono ?_; rintro e w' ⟨rfl, rfl⟩) | (go_at_call 14; refine (cmsg_any b y t Ap m cp q r _ hy.re ht hm).mono ?_; rintro e w' ⟨rfl, y2, h1, h2, h3⟩))
        go_roundw
        case rel => exact ⟨k + 1, _, by go_num, by omega, hy.trans h1, by omega⟩
        case measure => simp [intOf]; omega
      · have h0' : decide (0 ≤ y) = false := by simpa using h0
        clear hA
        go_wp2_with (first | (go_at_call 16; refine (ok_any b y _ hcy).mono ?_; rintro e w' ⟨rfl, rfl⟩))
        go_end0
        exact ⟨rfl, y, hy, hyx, fun h => by omega⟩
    · clear hA
      go_wp2
      go_end0
      exact ⟨rfl, y, hy, hyx, fun h => by omega⟩
end Go.Proofs.YtjeafniglnnkhaaGreatDoor
