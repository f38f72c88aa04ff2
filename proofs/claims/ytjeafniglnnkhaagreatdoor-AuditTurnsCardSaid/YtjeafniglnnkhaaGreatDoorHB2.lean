/- Walks: the count of a window, of an image; few. -/
import Derived.Test.YtjeafniglnnkhaaGreatDoorHB1
namespace Go.Proofs.YtjeafniglnnkhaaGreatDoor
open Go.RowKit

theorem Cnt.cell_far {w w' : World} {b : Nat} {y : Int} (h : Cnt w w' b y) {k j : Nat} {u : Value} (g : w.cell? ⟨k, j, none⟩ = some u) (hne : k ≠ b) : w'.cell? ⟨k, j, none⟩ = some u := by
  rw [← g]
  exact World.cell?_of_block (h.grown.block k (World.block_lt_of_cell? w ⟨k, j, none⟩ g) (fun e => by injection e; omega))

set_option maxHeartbeats 400000 in
theorem cwin_any (b : Nat) (x : Int) (last : Int) (vf vq : Value) (nf nq : Nat) (w : World) (h : Cnt w w b x) (B : Nat) (hvf : IsRows w B 6 vf nf FlightCells) (hvq : IsRows w B 4 vq nq MsgCells) (hB : B ≤ b) :
    Calls Tryz.prog 42 #[.pointer (some ⟨b, 0, none⟩), .agg #[.int .i64 last, vf, vq]] w (MsgCount w b x 0) := by
  obtain ⟨A, c, rfl, hc, hn, hA⟩ := hvf
  obtain ⟨Aq, cq, rfl, hcq, hnq, hAq⟩ := hvq
  have hbw : b < w.heap.size := World.block_lt_of_cell? w ⟨b, 0, none⟩ h.cell
  have ha := h.alloc (.cells #[.int .i64 last, .slice A nf c, .slice Aq nq cq] 44)
  have hbox : ∀ (k : Nat) u, (#[Value.int .i64 last, .slice A nf c, .slice Aq nq cq] : Array Value)[k]? = some u → (w.alloc (.cells #[.int .i64 last, .slice A nf c, .slice Aq nq cq] 44)).cell? ⟨w.heap.size, k, none⟩ = some u := fun k u hu => by
    have : (w.alloc (.cells #[.int .i64 last, .slice A nf c, .slice Aq nq cq] 44)).heap[w.heap.size]? = some (.cells #[.int .i64 last, .slice A nf c, .slice Aq nq cq] 44 (0, 0)) := heap_alloc_new w _
    rw [cell_of_row _ _ k _ 44 (0, 0) this]
    exact hu
  have hqr : IsRows w B 4 (.slice Aq nq cq) nq MsgCells := ⟨Aq, cq, rfl, hcq, hnq, hAq⟩
  have HQ := Lib.hid hqr
  clear hqr hAq
  go_enter Tryz.func42, Tryz.ntmps42
  go_wp2
  go_loopw [4] (fun i wr => ∃ (k : Nat) (y : Int), i = .int .i64 k ∧ k ≤ nf ∧ Cnt (w.alloc (.cells #[.int .i64 last, .slice A nf c, .slice Aq nq cq] 44)) wr b y ∧ y ≤ x) (fun i _ => nf - (intOf i).toNat)
  case atStart => exact ⟨0, x, rfl, by omega, ha.re, by omega⟩
  case round =>
    obtain ⟨k, y, rfl, hk, hy, hyx⟩ := hrel
    have hcy := hy.cell
    have b1 := hy.cell_far (hbox 1 _ rfl) (by omega)
    have b2 := hy.cell_far (hbox 2 _ rfl) (by omega)
    have HBOX := Lib.hid hbox
    clear hbox
    by_cases hlt : k < nf
    · by_cases h0 : 0 ≤ y
      · obtain ⟨bb, oo, rfl, hbb, hcell⟩ := hA (by omega)
        obtain ⟨cs, ⟨id, t, Ap, m, cp, q, r, rel, rfl, ht, hm⟩, hcs⟩ := hcell k hlt
        have hkeep : ∀ j u, w.cell? ⟨bb, j, none⟩ = some u → wr.cell? ⟨bb, j, none⟩ = some u := fun j u g =>
          hy.cell_far ((World.cell?_of_block (heap_alloc_old w _ (World.block_lt_of_cell? w ⟨bb, j, none⟩ g))).trans g) (by omega)
        have g1 := hkeep _ _ (hcs 1 _ rfl)
        have g2 := hkeep _ _ (hcs 2 _ rfl)
        have g3 := hkeep _ _ (hcs 3 _ rfl)
        have g4 := hkeep _ _ (hcs 4 _ rfl)
        clear hkeep hcs hcell hA
        go_wp2_with (first | (go_at_call 16; refine (ok_any b y _ hcy).mono ?_; rintro e w' ⟨rfl, rfl⟩) | (go_at_call 14; refine (cmsg_any b y t Ap m cp q r _ hy.re ht hm).mono ?_; rintro e w' ⟨rfl, y2, h1, h2, h3⟩))
        go_roundw
        case rel => exact ⟨k + 1, _, by go_num, by omega, hy.trans h1, by omega⟩
        case measure => simp [intOf]; omega
      · have h0' : decide (0 ≤ y) = false := by simpa using h0
        have HQ2 : IsRows wr B 4 (.slice Aq nq cq) nq MsgCells := by
          obtain ⟨A', c', e1, e2, e3, e4⟩ := HQ.out
          refine ⟨A', c', e1, e2, e3, fun hp => ?_⟩
          obtain ⟨bq, oq, e5, e6, e7⟩ := e4 hp
          refine ⟨bq, oq, e5, e6, fun i hi => ?_⟩
          obtain ⟨cs, e8, e9⟩ := e7 i hi
          exact ⟨cs, e8, fun j u hu => hy.cell_far ((World.cell?_of_block (heap_alloc_old w _ (World.block_lt_of_cell? w ⟨bq, _, none⟩ (e9 j u hu)))).trans (e9 j u hu)) (by omega)⟩
        have HQ3 := Lib.hid HQ2
        clear hA HQ2
        go_wp2_with (first | (go_at_call 16; refine (ok_any b y _ hcy).mono ?_; rintro e w' ⟨rfl, rfl⟩) | (go_at_call 44; refine (cmsgs_any b y _ nq _ hy.re B HQ3.out hB).mono ?_; rintro e w' ⟨rfl, y2, h1, h2, h3⟩))
        go_end0
        exact ⟨rfl, y2, (ha.trans hy).trans h1, by omega, fun h => by omega⟩
    · have HQ2 : IsRows wr B 4 (.slice Aq nq cq) nq MsgCells := by
        obtain ⟨A', c', e1, e2, e3, e4⟩ := HQ.out
        refine ⟨A', c', e1, e2, e3, fun hp => ?_⟩
        obtain ⟨bq, oq, e5, e6, e7⟩ := e4 hp
        refine ⟨bq, oq, e5, e6, fun i hi => ?_⟩
        obtain ⟨cs, e8, e9⟩ := e7 i hi
        exact ⟨cs, e8, fun j u hu => hy.cell_far ((World.cell?_of_block (heap_alloc_old w _ (World.block_lt_of_cell? w ⟨bq, _, none⟩ (e9 j u hu)))).trans (e9 j u hu)) (by omega)⟩
      have HQ3 := Lib.hid HQ2
      clear hA HQ2
      go_wp2_with (first | (go_at_call 44; refine (cmsgs_any b y _ nq _ hy.re B HQ3.out hB).mono ?_; rintro e w' ⟨rfl, y2, h1, h2, h3⟩))
      go_end0
      exact ⟨rfl, y2, (ha.trans hy).trans h1, by omega, fun h => by omega⟩
end Go.Proofs.YtjeafniglnnkhaaGreatDoor
