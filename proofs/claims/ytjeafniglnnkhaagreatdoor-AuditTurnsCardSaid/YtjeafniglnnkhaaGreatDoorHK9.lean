/- Walks: audit.spare. -/
import Derived.Test.YtjeafniglnnkhaaGreatDoorHK5
import Derived.Test.YtjeafniglnnkhaaGreatDoorHB5
import Derived.Deep.RegionHeld3
import Derived.Deep.DrawnRows
import Derived.Deep.CutRange
namespace Go.Proofs.YtjeafniglnnkhaaGreatDoor
open Go.RowKit Go.BigFrame
attribute [local go_sem ↓] Go.wp_at_zero Go.wp_at_succ

theorem two_boxes (w : World) (A B : Array Value) (t t' : TypeId) :
    (∀ (k : Nat) u, A[k]? = some u → (((w.alloc (.cells A t)).alloc (.cells B t')).drew).cell? ⟨w.heap.size, k, none⟩ = some u) ∧ (∀ (k : Nat) u, B[k]? = some u → (((w.alloc (.cells A t)).alloc (.cells B t')).drew).cell? ⟨w.heap.size + 1, k, none⟩ = some u) ∧
      Below w.heap.size w (((w.alloc (.cells A t)).alloc (.cells B t')).drew) :=
  ⟨fun k u hu => show ((w.alloc (.cells A t)).alloc (.cells B t')).cell? _ = _ from alloc_keep (box_cell w A t k hu) _, fun k u hu => by
    have := box_cell (w.alloc (.cells A t)) B t' k hu
    rwa [show (w.alloc (.cells A t)).heap.size = w.heap.size + 1 by simp] at this, (((Below.refl _ _).alloc (Nat.le_refl _) _).alloc (by simp) _).drew⟩

def spareV (i k : Nat) (sh : Bool) (xq yq : Int) (W1 W2 : Bool) : Bool := if i = k then false else if sh then false else if yq < xq then false else if !W1 then false else !(W2 && (xq == yq) && decide (i < k))

set_option maxRecDepth 100000 in
set_option maxHeartbeats 4000000 in
theorem spare_any (b o n c i k : Nat) (xf yf : ByteArray) (xq yq : Int) (W1 W2 : Bool) (w : World) (hin : i < n) (hkn : k < n) (hn : n ≤ 1000)
    (x0 : w.cell? ⟨b, o + i * 2, none⟩ = some (.string xf)) (x1 : w.cell? ⟨b, o + i * 2 + 1, none⟩ = some (.int .i64 xq)) (y0 : w.cell? ⟨b, o + k * 2, none⟩ = some (.string yf)) (y1 : w.cell? ⟨b, o + k * 2 + 1, none⟩ = some (.int .i64 yq))
    (hxz : xf.size ≤ 1000000) (h1 : i ≠ k → (sharedS xf).isSome = false → ¬ yq < xq → ∀ W, Calls Tryz.prog 70 #[.string xf, .string yf] W fun e w' => e = .returned (.bool W1) ∧ Below W.heap.size W w')
    (h2 : i ≠ k → (sharedS xf).isSome = false → ¬ yq < xq → W1 = true → ∀ W, Calls Tryz.prog 70 #[.string yf, .string xf] W fun e w' => e = .returned (.bool W2) ∧ Below W.heap.size W w') :
    Calls Tryz.prog 46 #[.slice (some ⟨b, o, none⟩) n c, .int .i64 i, .int .i64 k] w fun e w' => e = .returned (.bool (spareV i k (sharedS xf).isSome xq yq W1 W2)) ∧ Below w.heap.size w w' := by
  have hi0 : (0 : Int) ≤ (i : Int) := by omega
  have hi1 : (i : Int) < (n : Int) := by omega
  have hk0 : (0 : Int) ≤ (k : Int) := by omega
  have hk1 : (k : Int) < (n : Int) := by omega
  have H1 := Lib.hid h1
  have H2 := Lib.hid h2
  clear h1 h2
  go_enter Tryz.func46, Tryz.ntmps46
  go_upto_region 1 with fail
  go_cut [7, 8] from 9 to 16 (fun p r wc => ∃ bx by', p = .pointer (some ⟨bx, 0, none⟩) ∧ r = .pointer (some ⟨by', 0, none⟩) ∧ wc.cell? ⟨bx, 0, none⟩ = some (.string xf) ∧ wc.cell? ⟨bx, 1, none⟩ = some (.int .i64 xq) ∧ wc.cell? ⟨by', 0, none⟩ = some (.string yf) ∧ wc.cell? ⟨by', 1, none⟩ = some (.int .i64 yq) ∧ Below w.heap.size w wc)
  case first =>
    go_region_held3 (fun w' => w'.cell? ⟨b, o + i * 2, none⟩ = some (.string xf) ∧ w'.cell? ⟨b, o + i * 2 + 1, none⟩ = some (.int .i64 xq) ∧ w'.cell? ⟨b, o + k * 2, none⟩ = some (.string yf) ∧ w'.cell? ⟨b, o + k * 2 + 1, none⟩ = some (.int .i64 yq)) (go_keep) (fail)
    all_goals (go_wp2_with fail; go_meet)
    · obtain ⟨a1, a2, a3⟩ := two_boxes w #[.string xf, .int .i64 xq] #[.string yf, .int .i64 yq] 49 49
      exact ⟨_, _, rfl, rfl, a1 0 _ rfl, a1 1 _ rfl, a2 0 _ rfl, a2 1 _ rfl, a3⟩
    · obtain ⟨a1, a2, a3⟩ := two_boxes w #[.string yf, .int .i64 yq] #[.string xf, .int .i64 xq] 49 49
      exact ⟨_, _, rfl, rfl, a2 0 _ rfl, a2 1 _ rfl, a1 0 _ rfl, a1 1 _ rfl, a3⟩
  case rest =>
    obtain ⟨bx, by', rfl, rfl, c0, c1, c2, c3, hb⟩ := hcut
    have hbx := World.block_lt_of_cell? wc _ c0
    have hby := World.block_lt_of_cell? wc _ c2
    clear x0 x1 y0 y1
    by_cases hik : i = k
    · have H := Lib.hid (show spareV i k (sharedS xf).isSome xq yq W1 W2 = false by simp [spareV, hik])
      subst hik
      go_wp2
      go_ret
      exact ⟨by rw [H.out]; rfl, hb⟩
    · have e0 : ((i : Int) == (k : Int)) = false := by rw [beq_eq_false_iff_ne]; omega
      have HS := fun W => Lib.hid (isShared_any xf W hxz)
      cases hsh : (sharedS xf).isSome
      · rw [hsh] at HS
        by_cases hq : yq < xq
        · have H := Lib.hid (show spareV i k (sharedS xf).isSome xq yq W1 W2 = false by simp [spareV, hik, hq])
          go_wp2_with fail
          refine (HS _).out.mono ?_
          rintro e w1 ⟨rfl, hb1⟩
          have d1 := (hb1.cell (p := ⟨bx, 1, none⟩) hbx).trans c1
          have d3 := (hb1.cell (p := ⟨by', 1, none⟩) hby).trans c3
          go_wp2
          go_ret
          exact ⟨by rw [H.out]; rfl, hb.trans (hb1.mono hb.size)⟩
        · have h1 := fun W => Lib.hid (H1.out hik hsh hq W)
          cases W1 with
          | false =>
            have H := Lib.hid (show spareV i k (sharedS xf).isSome xq yq false W2 = false by simp [spareV, hik, hsh, hq])
            go_wp2_with fail
            refine (HS _).out.mono ?_
            rintro e w1 ⟨rfl, hb1⟩
            have d0 := (hb1.cell (p := ⟨bx, 0, none⟩) hbx).trans c0
            have d1 := (hb1.cell (p := ⟨bx, 1, none⟩) hbx).trans c1
            have d2 := (hb1.cell (p := ⟨by', 0, none⟩) hby).trans c2
            have d3 := (hb1.cell (p := ⟨by', 1, none⟩) hby).trans c3
            go_wp2_with fail
            refine (h1 _).out.mono ?_
            rintro e w2 ⟨rfl, hb2⟩
            go_wp2
            go_ret
            exact ⟨by rw [H.out]; rfl, (hb.trans (hb1.mono hb.size)).trans (hb2.mono (Nat.le_trans hb.size hb1.size))⟩
          | true =>
            have h2 := fun W => Lib.hid (H2.out hik hsh hq rfl W)
            go_wp2_with fail
            refine (HS _).out.mono ?_
            rintro e w1 ⟨rfl, hb1⟩
            have d0 := (hb1.cell (p := ⟨bx, 0, none⟩) hbx).trans c0
            have d1 := (hb1.cell (p := ⟨bx, 1, none⟩) hbx).trans c1
            have d2 := (hb1.cell (p := ⟨by', 0, none⟩) hby).trans c2
            have d3 := (hb1.cell (p := ⟨by', 1, none⟩) hby).trans c3
            have hbx1 := World.block_lt_of_cell? w1 _ d0
            have hby1 := World.block_lt_of_cell? w1 _ d2
            go_wp2_with fail
            refine (h1 _).out.mono ?_
            rintro e w2 ⟨rfl, hb2⟩
            have f0 := (hb2.cell (p := ⟨bx, 0, none⟩) hbx1).trans d0
            have f1 := (hb2.cell (p := ⟨bx, 1, none⟩) hbx1).trans d1
            have f2 := (hb2.cell (p := ⟨by', 0, none⟩) hby1).trans d2
            have f3 := (hb2.cell (p := ⟨by', 1, none⟩) hby1).trans d3
            have hbx2 := World.block_lt_of_cell? w2 _ f0
            have hby2 := World.block_lt_of_cell? w2 _ f2
            have hb02 := (hb.trans (hb1.mono hb.size)).trans (hb2.mono (Nat.le_trans hb.size hb1.size))
            clear c0 c1 c2 c3 d0 d1 d2 d3
            go_wp2_with fail
            refine (h2 _).out.mono ?_
            rintro e w3 ⟨rfl, hb3⟩
            have k0 := (hb3.cell (p := ⟨bx, 0, none⟩) hbx2).trans f0
            have k1 := (hb3.cell (p := ⟨bx, 1, none⟩) hbx2).trans f1
            have k2 := (hb3.cell (p := ⟨by', 0, none⟩) hby2).trans f2
            have k3 := (hb3.cell (p := ⟨by', 1, none⟩) hby2).trans f3
            have hb03 := hb02.trans (hb3.mono hb02.size)
            cases W2 with
            | false =>
              have H := Lib.hid (show spareV i k (sharedS xf).isSome xq yq true false = true by simp [spareV, hik, hsh, hq])
              go_wp2
              go_ret
              exact ⟨by rw [H.out]; rfl, hb03⟩
            | true =>
              by_cases he : xq = yq
              · have he' : (xq == yq) = true := by simp [he]
                have H := Lib.hid (show spareV i k (sharedS xf).isSome xq yq true true = !(decide (i < k)) by simp [spareV, hik, hsh, hq, he])
                by_cases hlt : i < k
                · have hgt : decide ((i : Int) < (k : Int)) = true := decide_eq_true (by omega)
                  have H3 := Lib.hid (show (!(decide (i < k))) = false by simp [hlt])
                  clear hlt he
                  go_wp2
                  go_ret
                  exact ⟨by rw [H.out, H3.out]; rfl, hb03⟩
                · have hgt : decide ((i : Int) < (k : Int)) = false := decide_eq_false (by omega)
                  have H3 := Lib.hid (show (!(decide (i < k))) = true by simp [hlt])
                  clear hlt he
                  go_wp2
                  go_ret
                  exact ⟨by rw [H.out, H3.out]; rfl, hb03⟩
              · have he' : (xq == yq) = false := by simpa using he
                have H := Lib.hid (show spareV i k (sharedS xf).isSome xq yq true true = true by simp [spareV, hik, hsh, hq, he])
                clear he
                go_wp2
                go_ret
                exact ⟨by rw [H.out]; rfl, hb03⟩
      · rw [hsh] at HS
        have H := Lib.hid (show spareV i k (sharedS xf).isSome xq yq W1 W2 = false by simp [spareV, hik, hsh])
        go_wp2_with fail
        refine (HS _).out.mono ?_
        rintro e w1 ⟨rfl, hb1⟩
        go_wp2
        go_ret
        exact ⟨by rw [H.out]; rfl, hb.trans (hb1.mono hb.size)⟩
end Go.Proofs.YtjeafniglnnkhaaGreatDoor
