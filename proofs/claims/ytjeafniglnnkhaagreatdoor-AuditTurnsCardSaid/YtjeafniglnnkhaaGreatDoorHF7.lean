/- Walk: found.session. -/
/- Walks: audit.key of a client's name; whether the first session's first filter is that one. -/
import Derived.Test.YtjeafniglnnkhaaGreatDoorHF6
import Derived.Test.YtjeafniglnnkhaaGreatDoorHA5
import Derived.Test.YtjeafniglnnkhaaGreatDoorHW0
import Derived.Deep.RegionWith
import Derived.Deep.CutRange
import Derived.Deep.RegionHeld3
import Derived.Deep.DrawnRows
namespace Go.Proofs.YtjeafniglnnkhaaGreatDoor
open Go.RowKit Go.Maps Go.BigFrame
attribute [local go_sem ↓] Go.wp_at_zero Go.wp_at_succ

theorem good_yes (q : Int) (w : World) (h0 : 0 ≤ q) (h2 : q ≤ 2) : Calls Tryz.prog 26 #[.int .i64 q] w fun e w' => e = .returned (.bool true) ∧ w' = w := by
  go_enter Tryz.func26, Tryz.ntmps26
  go_wp2
  go_ret
  exact ⟨rfl, rfl⟩

/-- Filters that are no fault, in their order. -/
structure SubsFine (l : List (ByteArray × Int)) : Prop where
  each : ∀ i (h : i < l.length), l[i].1.size ≤ 1000000 ∧ filterS l[i].1 = 0 ∧ 0 ≤ l[i].2 ∧ l[i].2 ≤ 2
  order : ∀ i (h : i + 1 < l.length), compareS l[i].1 l[i + 1].1 < 0

/-- The faults that an inbox adds, of the first k numbers. -/
def inbO (o : Option Int) (l : List Int) : Nat → Option Int
  | 0 => o
  | k + 1 => if 0 < k ∧ l.getD k 0 ≤ l.getD (k - 1) 0 then some 210 else inbO o l k

theorem inbO_two (o : Option Int) (h : o = none ∨ o = some 210) (l : List Int) : ∀ k, inbO o l k = none ∨ inbO o l k = some 210
  | 0 => h
  | k + 1 => by
    unfold inbO
    split
    · exact .inr rfl
    · exact inbO_two o h l k

theorem inbO_next (o : Option Int) (l : List Int) (p : Nat) (h : p + 1 < l.length) : inbO o l (p + 1 + 1) = if l[p + 1] ≤ l[p] then some 210 else inbO o l (p + 1) := by
  have e1 : l.getD (p + 1) 0 = l[p + 1] := by simp [List.getD, h]
  have e2 : l.getD (p + 1 - 1) 0 = l[p] := by simp [List.getD, show p < l.length by omega]
  rw [inbO, e1, e2]
  simp

theorem IsRows.grown {w w' : World} {B b size : Nat} {v : Value} {n : Nat} {R : Nat → List Value → Prop} (h : IsRows w B size v n R) (hg : w.grownBy w' (some b)) (hB : B ≤ w.heap.size) (hb : B ≤ b) : IsRows w' B size v n R := by
  obtain ⟨A, c, hv, hc, hn, hA⟩ := h
  refine ⟨A, c, hv, hc, hn, fun h0 => ?_⟩
  obtain ⟨b', o, hA, hB', hcell⟩ := hA h0
  refine ⟨b', o, hA, hB', fun i hi => ?_⟩
  obtain ⟨cs, h1, h2⟩ := hcell i hi
  exact ⟨cs, h1, fun j u hu => (World.cell?_of_block (a := ⟨b', o + i * size + j, none⟩) (hg.block b' (by omega) (fun e => by injection e with e; omega))).trans (h2 j u hu)⟩

def IntCells (l : List Int) : Nat → List Value → Prop := EncCells (fun n => [.int .i64 n]) l

set_option maxRecDepth 100000 in
set_option maxHeartbeats 4000000 in
theorem session_found (b N : Nat) (o : Option Int) (c : ByteArray) (As : Option Addr) (cs : Nat) (vi : Value) (l : List (ByteArray × Int)) (il : List Int) (B : Nat) (w : World) (h : Found w b o N) (hN : N ≤ 1000) (ho : o = none ∨ o = some 210)
    (hs : IsRows w B 2 (.slice As l.length cs) l.length (AskCells l)) (hiw : IsRows w B 1 vi il.length (IntCells il)) (hB : B ≤ w.heap.size) (hbB : B ≤ b) (hl : l.length ≤ 1000) (hil : il.length ≤ 1000)
    (hc : checkS c = (0, 0)) (hce : c.toList.isEmpty = false) (hf : SubsFine l) (hi : ∀ n ∈ il, 1 ≤ n ∧ n ≤ 65535) :
    Calls Tryz.prog 48 #[.map (some b), .agg #[.string c, .slice As l.length cs, .int .i64 0, .slice none 0 0, .slice none 0 0, vi]] w fun e w' => e = .returned (.tuple #[]) ∧ Found w' b (inbO o il il.length) (N + 2 + 2 * l.length + 2 * il.length) ∧ w.grownBy w' (some b) := by
  obtain ⟨Ai, ci, rfl, hni⟩ := hiw.enc_val
  have HS := Lib.hid hs
  have HIW := Lib.hid hiw
  have HF := Lib.hid h
  have hlt := h.lt
  have s0 := box_cell w #[.string c, .slice As l.length cs, .int .i64 0, .slice none 0 0, .slice none 0 0, .slice Ai il.length ci] 47 0 (u := .string c) rfl
  have s1 := box_cell w #[.string c, .slice As l.length cs, .int .i64 0, .slice none 0 0, .slice none 0 0, .slice Ai il.length ci] 47 1 (u := .slice As l.length cs) rfl
  have s2 := box_cell w #[.string c, .slice As l.length cs, .int .i64 0, .slice none 0 0, .slice none 0 0, .slice Ai il.length ci] 47 2 (u := .int .i64 0) rfl
  have s3 := box_cell w #[.string c, .slice As l.length cs, .int .i64 0, .slice none 0 0, .slice none 0 0, .slice Ai il.length ci] 47 3 (u := .slice none 0 0) rfl
  have s4 := box_cell w #[.string c, .slice As l.length cs, .int .i64 0, .slice none 0 0, .slice none 0 0, .slice Ai il.length ci] 47 4 (u := .slice none 0 0) rfl
  have s5 := box_cell w #[.string c, .slice As l.length cs, .int .i64 0, .slice none 0 0, .slice none 0 0, .slice Ai il.length ci] 47 5 (u := .slice Ai il.length ci) rfl
  have hg0 := grown_alloc w (.cells #[.string c, .slice As l.length cs, .int .i64 0, .slice none 0 0, .slice none 0 0, .slice Ai il.length ci] 47) (some b)
  have hsz : w.heap.size < (w.alloc (.cells #[.string c, .slice As l.length cs, .int .i64 0, .slice none 0 0, .slice none 0 0, .slice Ai il.length ci] 47)).heap.size := by simp
  have HF0 := Lib.hid (h.alloc (.cells #[.string c, .slice As l.length cs, .int .i64 0, .slice none 0 0, .slice none 0 0, .slice Ai il.length ci] 47))
  have HZ := Lib.hid (show (w.alloc (.cells #[.string c, .slice As l.length cs, .int .i64 0, .slice none 0 0, .slice none 0 0, .slice Ai il.length ci] 47)).heap.size = w.heap.size + 1 by simp)
  clear h hs hiw
  go_enter Tryz.func48, Tryz.ntmps48
  go_wp2_with fail
  generalize w.alloc (.cells #[.string c, .slice As l.length cs, .int .i64 0, .slice none 0 0, .slice none 0 0, .slice Ai il.length ci] 47) = w1 at *
  have hbare := bare_box w1 c
  rw [HZ.out] at hbare
  have hszb : w1.heap.size < (w1.alloc (.cells #[.string c, .slice none 0 0, .int .i64 0, .slice none 0 0, .slice none 0 0, .slice none 0 0] 47)).heap.size := by simp
  refine (imCheck_one c (w.heap.size + 1) 0 1 _ hbare hc hce).mono ?_
  rintro e w2 ⟨rfl, hb2⟩
  have hbx : Below w1.heap.size w1 (w1.alloc (.cells #[.string c, .slice none 0 0, .int .i64 0, .slice none 0 0, .slice none 0 0, .slice none 0 0] 47)) := (Below.refl _ _).alloc (Nat.le_refl _) _
  have hb12 := hbx.trans (hb2.mono hbx.size)
  have hF2 := HF0.out.below hb12
  have hg2 := grown_trans hg0 (grown_below hb12 (some b))
  have HSC := Lib.hid (And.intro s0 (And.intro s1 (And.intro s2 (And.intro s3 (And.intro s4 s5)))))
  clear s0 s1 s2 s3 s4 s5 hbare hbx hb2
  go_wp2_with fail
  refine (note_any b N 211 o false w2 hF2 (by simp) (by omega) (by decide) (by decide)).mono ?_
  rintro e w3 ⟨rfl, hF3, hg3⟩
  have hg13 := grown_trans (grown_below hb12 (some b)) hg3
  have hne : some w.heap.size ≠ some b := fun e => by injection e with e; omega
  have keep : ∀ (W : World), w1.grownBy W (some b) → ∀ (k : Nat) (u : Value), w1.cell? ⟨w.heap.size, k, none⟩ = some u → W.cell? ⟨w.heap.size, k, none⟩ = some u := fun W hW k u hu => (World.cell?_of_block (a := ⟨w.heap.size, k, none⟩) (hW.block w.heap.size hsz hne)).trans hu
  have s1 := keep w3 hg13 1 _ HSC.out.2.1
  go_wp2_with fail
  go_loopw [6, 26] (fun _ i wr => ∃ k : Nat, i = .int .i64 k ∧ k ≤ l.length ∧ Found wr b o (N + 1 + 2 * k) ∧ w1.grownBy wr (some b)) (fun _ i _ => l.length - (intOf i).toNat)
  case atStart => exact ⟨0, rfl, by omega, hF3, hg13⟩
  case round =>
    obtain ⟨k, rfl, hk, hFr, hgr⟩ := hrel
    clear s1 hF3 hg13 hg3 hg2 hF2
    by_cases hlt : k < l.length
    · have hwr := grown_trans hg0 hgr
      have hR := Lib.hid (HS.out.grown hwr hB hbB)
      obtain ⟨ba, oa, rfl, hba, a0, a1⟩ := asks_at hR.out hlt
      obtain ⟨hz, hfi, hq0, hq2⟩ := hf.each k hlt
      have HFI := fun W => Lib.hid (show Calls Tryz.prog 38 #[.string l[k].1] W fun e w' => e = .returned (.int .i64 0) ∧ Below W.heap.size W w' by have h := filter_any l[k].1 W hz; rw [hfi] at h; exact h)
      have HGD := fun W => Lib.hid (good_yes l[k].2 W hq0 hq2)
      have HORD := Lib.hid (fun (h0 : 0 < k) => hf.order (k - 1) (by omega))
      have t0 := box_cell wr #[.string l[k].1, .int .i64 l[k].2] 49 0 (u := .string l[k].1) rfl
      have t1 := box_cell wr #[.string l[k].1, .int .i64 l[k].2] 49 1 (u := .int .i64 l[k].2) rfl
      have hbx : Below wr.heap.size wr (wr.alloc (.cells #[.string l[k].1, .int .i64 l[k].2] 49)) := (Below.refl _ _).alloc (Nat.le_refl _) _
      have hszx : wr.heap.size < (wr.alloc (.cells #[.string l[k].1, .int .i64 l[k].2] 49)).heap.size := by simp
      have hbr := hFr.lt
      have hFx := hFr.alloc (.cells #[.string l[k].1, .int .i64 l[k].2] 49)
      clear hfi
      go_wp2_with fail
      generalize wr.alloc (.cells #[.string l[k].1, .int .i64 l[k].2] 49) = w4 at *
      refine (HFI w4).out.mono ?_
      rintro e w5 ⟨rfl, hb5⟩
      have d0 := (hb5.cell (p := ⟨wr.heap.size, 0, none⟩) hszx).trans t0
      have d1 := (hb5.cell (p := ⟨wr.heap.size, 1, none⟩) hszx).trans t1
      have hFy := hFx.below hb5
      clear t0 t1 hFx
      go_wp2_with fail
      refine (HGD w5).out.mono ?_
      rintro e w' ⟨rfl, hw⟩
      rw [hw]
      clear hw w'
      go_wp2_with fail
      refine (note_any b _ 212 o false w5 hFy (by simp) (by omega) (by decide) (by decide)).mono ?_
      rintro e w6 ⟨rfl, hF6, hg6⟩
      have hg46 := grown_trans (grown_below hbx (some b)) (grown_trans (grown_below hb5 (some b)) hg6)
      have hg16 := grown_trans hgr hg46
      have hne2 : some wr.heap.size ≠ some b := fun e => by injection e with e; omega
      have hwr5 : wr.heap.size < w5.heap.size := World.block_lt_of_cell? _ _ d0
      have e0 := (World.cell?_of_block (a := ⟨wr.heap.size, 0, none⟩) (hg6.block wr.heap.size hwr5 hne2)).trans d0
      have s1 := keep w6 hg16 1 _ HSC.out.2.1
      have HF6 := Lib.hid (show Found w6 b o (N + 1 + 2 * k + 1) from hF6)
      have HNO := fun W => Lib.hid (show Calls Tryz.prog 47 #[.map (some b), .bool false, .int .i64 210] W fun e w' => e = .returned (.tuple #[]) ∧ Below W.heap.size W w' from (note_no b 210 W).mono fun e w' ⟨he, hw⟩ => ⟨he, by rw [hw]; exact Below.refl _ _⟩)
      have hR6 := Lib.hid (HS.out.grown (grown_trans hg0 hg16) hB hbB)
      have HGR := Lib.hid hg16
      have n0 := fun x : Near w6.heap.size w6 => Near.cell (World.block_lt_of_cell? _ _ s1) s1 x
      have n1 := fun x : Near w6.heap.size w6 => Near.cell (World.block_lt_of_cell? _ _ e0) e0 x
      clear d0 d1 a0 a1 hF6 hg6 hg46 hb5 hbx hgr hwr hFr hFy HFI HGD
      go_wp2_with fail
      by_cases h0 : k = 0
      · have hgt : decide ((0 : Int) < (k : Int)) = false := by simp; omega
        refine wp_region_near w6.heap.size (by kernel_rfl) (by kernel_rfl) ?_
        repeat (go_big_quiet_step (first | (go_at_call 47; exact Near.call (Nat.le_refl _) (HNO _).out)))
        refine wpQuiet_nil ?_
        rintro _ ⟨⟨w7, hb7⟩, rfl⟩
        have hF7 := HF6.out.below hb7
        have hg7 := Lib.hid (grown_trans HGR.out (grown_below hb7 (some b)))
        go_wp2
        go_roundw
        case rel => exact ⟨k + 1, by go_num, by omega, hF7.mono (by omega), hg7.out⟩
        case measure => simp [intOf]; omega
      · obtain ⟨p, rfl⟩ : ∃ p, k = p + 1 := ⟨k - 1, by omega⟩
        have hgt : decide ((0 : Int) < ((p : Int) + 1)) = true := decide_eq_true (by omega)
        obtain ⟨_, _, ee, _, a0, _⟩ := asks_at hR6.out (j := p) (by omega)
        cases ee
        have hzp := (hf.each p (by omega)).1
        have hord : compareS l[p].1 l[p + 1].1 < 0 := hf.order p hlt
        have HC10 := fun W => compare_any l[p].1 l[p + 1].1 W hzp hz
        generalize compareS l[p].1 l[p + 1].1 = cv at *
        have hcv : decide (0 ≤ cv) = false := by simp; omega
        have n2 := fun x : Near w6.heap.size w6 => Near.cell (b := ba) (o := oa + p * 2) (World.block_lt_of_cell? _ _ a0) a0 x
        refine wp_region_near w6.heap.size (by kernel_rfl) (by kernel_rfl) ?_
        repeat (go_big_quiet_step (first | (go_at_call 47; exact Near.call (Nat.le_refl _) (HNO _).out) | (go_at_call 10; exact Near.call (Nat.le_refl _) (HC10 _))))
        refine wpQuiet_nil ?_
        rintro _ ⟨⟨w7, hb7⟩, rfl⟩
        have hF7 := HF6.out.below hb7
        have hg7 := Lib.hid (grown_trans HGR.out (grown_below hb7 (some b)))
        go_wp2
        go_roundw
        case rel => exact ⟨p + 1 + 1, by go_num, by omega, hF7.mono (by omega), hg7.out⟩
        case measure => simp [intOf]; omega
    · have s1 := HSC.out
      have hFr' := hFr.mono (show N + 1 + 2 * k ≤ N + 1 + 2 * l.length by omega)
      have hgr' := Lib.hid hgr
      clear hFr
      obtain ⟨_, _, s2, s3, s4, s5⟩ := HSC.out
      have k2 := keep wr hgr 2 _ s2
      have k3 := keep wr hgr 3 _ s3
      have k4 := keep wr hgr 4 _ s4
      clear s1 s2 s3 s4
      go_wp2_with fail
      refine (window_none b _ o wr hFr' (by omega)).mono ?_
      rintro e w8 ⟨rfl, hF8, hg8⟩
      have HG18 := Lib.hid (grown_trans hgr hg8)
      have k5 := keep w8 HG18.out 5 _ s5
      clear k2 k3 k4 hg8 hgr s5
      go_wp2_with fail
      go_loopw [8, 9, 68] (fun _ _ i wx => ∃ j : Nat, i = .int .i64 j ∧ j ≤ il.length ∧ Found wx b (inbO o il j) (N + 2 + 2 * l.length + 2 * j) ∧ w1.grownBy wx (some b)) (fun _ _ i _ => il.length - (intOf i).toNat)
      case atStart => exact ⟨0, rfl, by omega, hF8.mono (by omega), HG18.out⟩
      case round =>
        obtain ⟨wy, rfl⟩ : ∃ wy : World, wy = wr := ⟨_, rfl⟩
        obtain ⟨j, rfl, hj, hFj, hgj⟩ := hrel
        clear k5 hF8
        by_cases hjl : j < il.length
        · have hRj := Lib.hid (HIW.out.grown (grown_trans hg0 hgj) hB hbB)
          obtain ⟨b1, o1, c1, ee, _, _, hcell⟩ := hRj.out.enc_at hjl
          cases ee
          have x0 : wy.cell? ⟨b1, o1 + j, none⟩ = some (.int .i64 il[j]) := by have := hcell 0 _ rfl; simpa using this
          obtain ⟨hx1, hx2⟩ := hi il[j] (List.getElem_mem hjl)
          have hjb : il.length ≤ 1000 := hil
          have hd1 : decide (il[j] < 1) = false := decide_eq_false (by omega)
          have hd2 : decide (65535 < il[j]) = false := decide_eq_false (by omega)
          have hod := inbO_two o ho il j
          clear hcell
          go_wp2_with fail
          refine (note_any b _ 215 _ false wy hFj (by simp) (by omega) (by decide) (by decide)).mono ?_
          rintro e w9 ⟨rfl, hF9, hg9⟩
          have HF9 := Lib.hid (show Found w9 b (inbO o il j) (N + 2 + 2 * l.length + 2 * j + 1) from hF9)
          have HG9 := Lib.hid (grown_trans hgj hg9)
          have s5 := keep w9 HG9.out 5 _ HSC.out.2.2.2.2.2
          by_cases h0 : j = 0
          · subst h0
            clear hg9 hgj hF9 x0
            go_wp2_with fail
            refine (note_any b _ 210 _ false w9 HF9.out (by simp) (by omega) (by decide) (by decide)).mono ?_
            rintro e w10 ⟨rfl, hF10, hg10⟩
            have hF11 : Found w10 b (inbO o il (0 + 1)) (N + 2 + 2 * l.length + 2 * (0 + 1)) := hF10.mono (by omega)
            have hg11 := Lib.hid (grown_trans HG9.out hg10)
            go_wp2
            go_roundw
            case rel => exact ⟨0 + 1, by go_num, by omega, hF11, hg11.out⟩
            case measure => simp [intOf]; omega
          · obtain ⟨p, rfl⟩ : ∃ p, j = p + 1 := ⟨j - 1, by omega⟩
            have hR9 := Lib.hid (HIW.out.grown (grown_trans hg0 HG9.out) hB hbB)
            obtain ⟨_, _, _, ee, _, _, hcell⟩ := hR9.out.enc_at (k := p) (by omega)
            cases ee
            have y0 : w9.cell? ⟨b1, o1 + p, none⟩ = some (.int .i64 il[p]) := by have := hcell 0 _ rfl; simpa using this
            have hgt : decide ((0 : Int) < ((p : Int) + 1)) = true := decide_eq_true (by omega)
            have HNX := Lib.hid (inbO_next o il p hjl)
            generalize il[p + 1] = xv at *
            generalize il[p] = yv at *
            clear hcell hg9 hgj hF9 x0
            by_cases hxy : xv ≤ yv
            · have hd : decide (xv ≤ yv) = true := decide_eq_true hxy
              go_wp2_with fail
              refine (note_any b _ 210 _ true w9 HF9.out (fun _ => hod) (by omega) (by decide) (by decide)).mono ?_
              rintro e w10 ⟨rfl, hF10, hg10⟩
              have hF11 : Found w10 b (inbO o il (p + 1 + 1)) (N + 2 + 2 * l.length + 2 * (p + 1 + 1)) := by rw [HNX.out, if_pos hxy]; exact hF10.mono (by omega)
              have hg11 := Lib.hid (grown_trans HG9.out hg10)
              go_wp2
              go_roundw
              case rel => exact ⟨p + 1 + 1, by go_num, by omega, hF11, hg11.out⟩
              case measure => simp [intOf]; omega
            · have hd : decide (xv ≤ yv) = false := decide_eq_false hxy
              go_wp2_with fail
              refine (note_any b _ 210 _ false w9 HF9.out (by simp) (by omega) (by decide) (by decide)).mono ?_
              rintro e w10 ⟨rfl, hF10, hg10⟩
              have hF11 : Found w10 b (inbO o il (p + 1 + 1)) (N + 2 + 2 * l.length + 2 * (p + 1 + 1)) := by rw [HNX.out, if_neg (by omega)]; exact hF10.mono (by omega)
              have hg11 := Lib.hid (grown_trans HG9.out hg10)
              go_wp2
              go_roundw
              case rel => exact ⟨p + 1 + 1, by go_num, by omega, hF11, hg11.out⟩
              case measure => simp [intOf]; omega
        · have hje : j = il.length := by omega
          subst hje
          go_wp2
          go_end0
          exact ⟨rfl, hFj, grown_trans hg0 hgj⟩
end Go.Proofs.YtjeafniglnnkhaaGreatDoor

namespace Go.Proofs.YtjeafniglnnkhaaGreatDoor
open Go.RowKit Go.Maps

set_option maxHeartbeats 400000 in
theorem key_name (s : ByteArray) (n : Int) (w : World) (hc : checkS s = (0, 0)) (hce : s.toList.isEmpty = false) :
    Calls Tryz.prog 50 #[.string s, .int .i64 n] w fun e w' => e = .returned (.bool true) ∧ Below w.heap.size w w' := by
  have hbare := bare_box w s
  have hbx : Below w.heap.size w (w.alloc (.cells #[.string s, .slice none 0 0, .int .i64 0, .slice none 0 0, .slice none 0 0, .slice none 0 0] 47)) := (Below.refl _ _).alloc (Nat.le_refl _) _
  go_enter Tryz.func50, Tryz.ntmps50
  go_wp2_with fail
  refine (imCheck_one s w.heap.size 0 1 _ hbare hc hce).mono ?_
  rintro e w2 ⟨rfl, hb2⟩
  go_wp2
  go_ret
  exact ⟨rfl, hbx.trans (hb2.mono hbx.size)⟩

theorem isAsk_yes (f : ByteArray) (q : Int) (bf : Nat) (w : World) (hf : w.cell? ⟨bf, 0, none⟩ = some (.string f)) :
    Calls Tryz.prog 79 #[.agg #[.string f, .int .i64 q], .pointer (some ⟨bf, 0, none⟩)] w fun e w' => e = .returned (.bool true) ∧ Below w.heap.size w w' := by
  have t0 := box_cell w #[.string f, .int .i64 q] 49 0 (u := .string f) rfl
  have f0 := alloc_keep hf (.cells #[.string f, .int .i64 q] 49)
  clear hf
  go_enter Tryz.func79, Tryz.ntmps79
  go_wp2
  go_ret
  exact ⟨rfl, (Below.refl _ _).alloc (Nat.le_refl _) _⟩

set_option maxHeartbeats 400000 in
theorem askIdx_first (f : ByteArray) (q : Int) (b o n c bf : Nat) (w : World) (hn : 0 < n) (h0 : w.cell? ⟨b, o, none⟩ = some (.string f)) (h1 : w.cell? ⟨b, o + 1, none⟩ = some (.int .i64 q)) (hf : w.cell? ⟨bf, 0, none⟩ = some (.string f)) :
    Calls Tryz.prog 108 #[.slice (some ⟨b, o, none⟩) n c, .func (.func 79) #[] #[.pointer (some ⟨bf, 0, none⟩)]] w fun e w' => e = .returned (.int .i64 0) ∧ Below w.heap.size w w' := by
  have hn' : decide ((0 : Int) < (n : Int)) = true := decide_eq_true (by omega)
  have hni : (0 : Int) < (n : Int) := by omega
  have HC := Lib.hid (isAsk_yes f q bf w hf)
  go_enter Tryz.func108, Tryz.ntmps108
  go_wp2_with fail
  refine wp_loop_rounds 1 ?_
  rw [rounds_succ]
  go_wp2_with fail
  refine HC.out.mono ?_
  rintro e w1 ⟨rfl, hb⟩
  go_wp2
  go_ret
  exact ⟨rfl, hb⟩

theorem askHas_first (f : ByteArray) (q : Int) (b o n c bf : Nat) (w : World) (hn : 0 < n) (h0 : w.cell? ⟨b, o, none⟩ = some (.string f)) (h1 : w.cell? ⟨b, o + 1, none⟩ = some (.int .i64 q)) (hf : w.cell? ⟨bf, 0, none⟩ = some (.string f)) :
    Calls Tryz.prog 78 #[.slice (some ⟨b, o, none⟩) n c, .func (.func 79) #[] #[.pointer (some ⟨bf, 0, none⟩)]] w fun e w' => e = .returned (.bool true) ∧ Below w.heap.size w w' := by
  have HC := Lib.hid (askIdx_first f q b o n c bf w hn h0 h1 hf)
  clear h0 h1 hf
  go_enter Tryz.func78, Tryz.ntmps78
  go_wp2_with fail
  refine HC.out.mono ?_
  rintro e w1 ⟨rfl, hb⟩
  go_wp2
  go_ret
  exact ⟨rfl, hb⟩

set_option maxHeartbeats 400000 in
theorem has_first (cl f : ByteArray) (q last : Int) (b o n c : Nat) (vf vq vi : Value) (w : World) (hn : 0 < n) (h0 : w.cell? ⟨b, o, none⟩ = some (.string f)) (h1 : w.cell? ⟨b, o + 1, none⟩ = some (.int .i64 q)) :
    Calls Tryz.prog 54 #[.agg #[.string cl, .slice (some ⟨b, o, none⟩) n c, .int .i64 last, vf, vq, vi], .string f] w fun e w' => e = .returned (.bool true) ∧ Below w.heap.size w w' := by
  have t1 := alloc_keep (box_cell w #[.string cl, .slice (some ⟨b, o, none⟩) n c, .int .i64 last, vf, vq, vi] 47 1 (u := .slice (some ⟨b, o, none⟩) n c) rfl) (.cells #[.string f] 9)
  have hb2 : Below w.heap.size w ((w.alloc (.cells #[.string cl, .slice (some ⟨b, o, none⟩) n c, .int .i64 last, vf, vq, vi] 47)).alloc (.cells #[.string f] 9)) := ((Below.refl _ _).alloc (Nat.le_refl _) _).alloc (by simp) _
  have m0 : ((w.alloc (.cells #[.string cl, .slice (some ⟨b, o, none⟩) n c, .int .i64 last, vf, vq, vi] 47)).alloc (.cells #[.string f] 9)).cell? ⟨w.heap.size + 1, 0, none⟩ = some (.string f) := by
    have := box_cell (w.alloc (.cells #[.string cl, .slice (some ⟨b, o, none⟩) n c, .int .i64 last, vf, vq, vi] 47)) #[.string f] 9 0 (u := .string f) rfl
    rwa [show (w.alloc (.cells #[.string cl, .slice (some ⟨b, o, none⟩) n c, .int .i64 last, vf, vq, vi] 47)).heap.size = w.heap.size + 1 by simp] at this
  have k0 := alloc_keep (alloc_keep h0 (.cells #[.string cl, .slice (some ⟨b, o, none⟩) n c, .int .i64 last, vf, vq, vi] 47)) (.cells #[.string f] 9)
  have k1 := alloc_keep (alloc_keep h1 (.cells #[.string cl, .slice (some ⟨b, o, none⟩) n c, .int .i64 last, vf, vq, vi] 47)) (.cells #[.string f] 9)
  have HC := Lib.hid (askHas_first f q b o n c (w.heap.size + 1) _ hn k0 k1 m0)
  clear h0 h1 k0 k1
  go_enter Tryz.func54, Tryz.ntmps54
  go_wp2_with fail
  refine HC.out.mono ?_
  rintro e w1 ⟨rfl, hb⟩
  go_wp2
  go_ret
  exact ⟨rfl, hb2.trans (hb.mono hb2.size)⟩

/-- The first session's cells, and its first filter's. -/
structure FirstHas (w : World) (bs os : Nat) (f : ByteArray) : Prop where
  ex : ∃ (cl : ByteArray) (q last : Int) (b o n c : Nat) (A2 A3 A4 : Option Addr) (n2 c2 n3 c3 n4 c4 : Nat), 0 < n ∧ w.cell? ⟨bs, os, none⟩ = some (.string cl) ∧ w.cell? ⟨bs, os + 1, none⟩ = some (.slice (some ⟨b, o, none⟩) n c) ∧ w.cell? ⟨bs, os + 2, none⟩ = some (.int .i64 last) ∧
    w.cell? ⟨bs, os + 3, none⟩ = some (.slice A2 n2 c2) ∧ w.cell? ⟨bs, os + 4, none⟩ = some (.slice A3 n3 c3) ∧ w.cell? ⟨bs, os + 5, none⟩ = some (.slice A4 n4 c4) ∧ w.cell? ⟨b, o, none⟩ = some (.string f) ∧ w.cell? ⟨b, o + 1, none⟩ = some (.int .i64 q)

set_option maxHeartbeats 400000 in
theorem sesIdx_first (f : ByteArray) (bs os n c bf : Nat) (w : World) (hn : 0 < n) (h : FirstHas w bs os f) (hf : w.cell? ⟨bf, 0, none⟩ = some (.string f)) :
    Calls Tryz.prog 77 #[.slice (some ⟨bs, os, none⟩) n c, .func (.func 53) #[] #[.pointer (some ⟨bf, 0, none⟩)]] w fun e w' => e = .returned (.int .i64 0) ∧ Below w.heap.size w w' := by
  obtain ⟨cl, q, last, b, o, n1, c1, A2, A3, A4, n2, c2, n3, c3, n4, c4, hn1, s0, s1, s2, s3, s4, s5, a0, a1⟩ := h
  have HC : Calls Tryz.prog 53 #[.agg #[.string cl, .slice (some ⟨b, o, none⟩) n1 c1, .int .i64 last, .slice A2 n2 c2, .slice A3 n3 c3, .slice A4 n4 c4], .pointer (some ⟨bf, 0, none⟩)] w fun e w' => e = .returned (.bool true) ∧ Below w.heap.size w w' := by
    clear s0 s1 s2 s3 s4 s5
    have t0 := box_cell w #[.string cl, .slice (some ⟨b, o, none⟩) n1 c1, .int .i64 last, .slice A2 n2 c2, .slice A3 n3 c3, .slice A4 n4 c4] 47 0 (u := .string cl) rfl
    have t1 := box_cell w #[.string cl, .slice (some ⟨b, o, none⟩) n1 c1, .int .i64 last, .slice A2 n2 c2, .slice A3 n3 c3, .slice A4 n4 c4] 47 1 (u := .slice (some ⟨b, o, none⟩) n1 c1) rfl
    have t2 := box_cell w #[.string cl, .slice (some ⟨b, o, none⟩) n1 c1, .int .i64 last, .slice A2 n2 c2, .slice A3 n3 c3, .slice A4 n4 c4] 47 2 (u := .int .i64 last) rfl
    have t3 := box_cell w #[.string cl, .slice (some ⟨b, o, none⟩) n1 c1, .int .i64 last, .slice A2 n2 c2, .slice A3 n3 c3, .slice A4 n4 c4] 47 3 (u := .slice A2 n2 c2) rfl
    have t4 := box_cell w #[.string cl, .slice (some ⟨b, o, none⟩) n1 c1, .int .i64 last, .slice A2 n2 c2, .slice A3 n3 c3, .slice A4 n4 c4] 47 4 (u := .slice A3 n3 c3) rfl
    have t5 := box_cell w #[.string cl, .slice (some ⟨b, o, none⟩) n1 c1, .int .i64 last, .slice A2 n2 c2, .slice A3 n3 c3, .slice A4 n4 c4] 47 5 (u := .slice A4 n4 c4) rfl
    have hbx : Below w.heap.size w (w.alloc (.cells #[.string cl, .slice (some ⟨b, o, none⟩) n1 c1, .int .i64 last, .slice A2 n2 c2, .slice A3 n3 c3, .slice A4 n4 c4] 47)) := (Below.refl _ _).alloc (Nat.le_refl _) _
    have f0 := alloc_keep hf (.cells #[.string cl, .slice (some ⟨b, o, none⟩) n1 c1, .int .i64 last, .slice A2 n2 c2, .slice A3 n3 c3, .slice A4 n4 c4] 47)
    have k0 := alloc_keep a0 (.cells #[.string cl, .slice (some ⟨b, o, none⟩) n1 c1, .int .i64 last, .slice A2 n2 c2, .slice A3 n3 c3, .slice A4 n4 c4] 47)
    have k1 := alloc_keep a1 (.cells #[.string cl, .slice (some ⟨b, o, none⟩) n1 c1, .int .i64 last, .slice A2 n2 c2, .slice A3 n3 c3, .slice A4 n4 c4] 47)
    clear hf a0 a1
    go_enter Tryz.func53, Tryz.ntmps53
    go_wp2_with fail
    generalize w.alloc (.cells #[.string cl, .slice (some ⟨b, o, none⟩) n1 c1, .int .i64 last, .slice A2 n2 c2, .slice A3 n3 c3, .slice A4 n4 c4] 47) = w1 at *
    refine (has_first cl f q last b o n1 c1 _ _ _ w1 hn1 k0 k1).mono ?_
    rintro e w2 ⟨rfl, hb⟩
    go_wp2
    go_ret
    exact ⟨rfl, hbx.trans (hb.mono hbx.size)⟩
  have hn' : decide ((0 : Int) < (n : Int)) = true := decide_eq_true (by omega)
  have hni : (0 : Int) < (n : Int) := by omega
  have HC := Lib.hid HC
  clear a0 a1 hf
  go_enter Tryz.func77, Tryz.ntmps77
  go_wp2_with fail
  refine wp_loop_rounds 1 ?_
  rw [rounds_succ]
  go_wp2_with fail
  refine HC.out.mono ?_
  rintro e w1 ⟨rfl, hb⟩
  go_wp2
  go_ret
  exact ⟨rfl, hb⟩

theorem sesHas_first (f : ByteArray) (bs os n c bf : Nat) (w : World) (hn : 0 < n) (h : FirstHas w bs os f) (hf : w.cell? ⟨bf, 0, none⟩ = some (.string f)) :
    Calls Tryz.prog 52 #[.slice (some ⟨bs, os, none⟩) n c, .func (.func 53) #[] #[.pointer (some ⟨bf, 0, none⟩)]] w fun e w' => e = .returned (.bool true) ∧ Below w.heap.size w w' := by
  have HC := Lib.hid (sesIdx_first f bs os n c bf w hn h hf)
  clear h hf
  go_enter Tryz.func52, Tryz.ntmps52
  go_wp2_with fail
  refine HC.out.mono ?_
  rintro e w1 ⟨rfl, hb⟩
  go_wp2
  go_ret
  exact ⟨rfl, hb⟩
end Go.Proofs.YtjeafniglnnkhaaGreatDoor
