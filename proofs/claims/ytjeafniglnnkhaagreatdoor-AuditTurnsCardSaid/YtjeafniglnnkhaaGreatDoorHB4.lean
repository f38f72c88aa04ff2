/- Walk: few. -/
import Derived.Test.YtjeafniglnnkhaaGreatDoorHB3
namespace Go.Proofs.YtjeafniglnnkhaaGreatDoor
open Go.RowKit

/-- What a call knows of an image and a message's topic once few let them in. -/
structure FewOk (I : Img) (t : ByteArray) : Prop where
  ses : I.ses.length ≤ 30000
  each : ∀ S ∈ I.ses, SesOk 30000 S
  subs : ∀ S ∈ I.ses, S.subs.length ≤ 40
  groups : I.groups.length ≤ 30000
  gsize : ∀ g ∈ I.groups, g.1.size ≤ 30000 ∧ g.2.size ≤ 30000
  topic : t.size ≤ 30000

theorem alloc_keep {w : World} {k j : Nat} {u : Value} (g : w.cell? ⟨k, j, none⟩ = some u) (o : Obj) : (w.alloc o).cell? ⟨k, j, none⟩ = some u :=
  (World.cell?_of_block (heap_alloc_old w o (World.block_lt_of_cell? w ⟨k, j, none⟩ g))).trans g

theorem Cnt.fresh {w : World} {k : Nat} (hk : w.heap.size = k) (n : Int) (T : TypeId) (h0 : -1152921504606846976 ≤ n) (h1 : n ≤ 1000000) : Cnt (w.alloc (.cells #[.int .i64 n] T)) (w.alloc (.cells #[.int .i64 n] T)) k n := by
  subst hk
  refine Cnt.refl (box_cell w #[.int .i64 n] T 0 rfl) ?_ h0 h1
  have : (w.alloc (.cells #[.int .i64 n] T)).heap[w.heap.size]? = some (.cells #[.int .i64 n] T (0, 0)) := heap_alloc_new w _
  unfold World.frozen?
  rw [this]
  rfl

theorem many_any (n : Int) (w : World) :
    Calls Tryz.prog 12 #[.int .i64 n] w fun e w' => e = .returned (.pointer (some ⟨w.heap.size, 0, none⟩)) ∧ w.alloc (.cells #[.int .i64 n] 92) = w' := by
  go_enter Tryz.func12, Tryz.ntmps12
  go_wp2
  go_ret
  exact ⟨rfl, rfl⟩

def FewPost (I : Img) (t : ByteArray) (w : World) (e : Ending) (w' : World) : Prop := (∃ r : Bool, e = .returned (.bool r) ∧ (r = true → FewOk I t)) ∧ Below w.heap.size w w'

set_option maxRecDepth 100000 in
set_option maxHeartbeats 2000000 in
theorem few_any (autos : Int) (vs vr vg : Value) (I : Img) (t s : ByteArray) (A : Option Addr) (m c : Nat) (q : Int) (rr : Bool) (w : World) (hI : IsImg w w.heap.size vs vr vg I) (ht : t.size ≤ big) (hm : m ≤ big) (hs : s.size ≤ big) :
    Calls Tryz.prog 4 #[.agg #[.int .i64 autos, vs, vr, vg], .agg #[.string t, .slice A m c, .int .i64 q, .bool rr], .string s] w (FewPost I t w) := by
  obtain ⟨nr, hret⟩ := hI.ret
  have HI := Lib.hid hI
  obtain ⟨As, cs, rfl, hcs, hns, hAs⟩ := hI.ses
  obtain ⟨Ar, cr, rfl, hcr, hnr, hAr⟩ := hret
  obtain ⟨Ag, cg, rfl, hcg, hng, hAg⟩ := hI.groups
  clear hAs hAr hAg hI
  go_enter Tryz.func4, Tryz.ntmps4
  go_wp2_with fail
  refine (many_any 30000 _).mono ?_
  rintro e w' ⟨rfl, rfl⟩
  have m0 : ∀ (k : Nat) u, (#[Value.string t, .slice A m c, .int .i64 q, .bool rr] : Array Value)[k]? = some u → ((w.alloc (.cells #[.int .i64 autos, .slice As I.ses.length cs, .slice Ar nr cr, .slice Ag I.groups.length cg] 26)).alloc (.cells #[.string t, .slice A m c, .int .i64 q, .bool rr] 29)).cell? ⟨w.heap.size + 1, k, none⟩ = some u := fun k u hu => by
    have := box_cell (w.alloc (.cells #[.int .i64 autos, .slice As I.ses.length cs, .slice Ar nr cr, .slice Ag I.groups.length cg] 26)) #[.string t, .slice A m c, .int .i64 q, .bool rr] 29 k hu
    rwa [show (w.alloc (.cells #[.int .i64 autos, .slice As I.ses.length cs, .slice Ar nr cr, .slice Ag I.groups.length cg] 26)).heap.size = w.heap.size + 1 by simp] at this
  have i1 := alloc_keep (alloc_keep (box_cell w #[.int .i64 autos, .slice As I.ses.length cs, .slice Ar nr cr, .slice Ag I.groups.length cg] 26 1 (u := .slice As I.ses.length cs) rfl) (.cells #[.string t, .slice A m c, .int .i64 q, .bool rr] 29)) (.cells #[.int .i64 30000] 92)
  have m0' : ∀ (k : Nat) u, (#[Value.string t, .slice A m c, .int .i64 q, .bool rr] : Array Value)[k]? = some u → (((w.alloc (.cells #[.int .i64 autos, .slice As I.ses.length cs, .slice Ar nr cr, .slice Ag I.groups.length cg] 26)).alloc (.cells #[.string t, .slice A m c, .int .i64 q, .bool rr] 29)).alloc (.cells #[.int .i64 30000] 92)).cell? ⟨w.heap.size + 1, k, none⟩ = some u := fun k u hu => alloc_keep (m0 k u hu) _
  have hc3 : Cnt (((w.alloc (.cells #[.int .i64 autos, .slice As I.ses.length cs, .slice Ar nr cr, .slice Ag I.groups.length cg] 26)).alloc (.cells #[.string t, .slice A m c, .int .i64 q, .bool rr] 29)).alloc (.cells #[.int .i64 30000] 92)) (((w.alloc (.cells #[.int .i64 autos, .slice As I.ses.length cs, .slice Ar nr cr, .slice Ag I.groups.length cg] 26)).alloc (.cells #[.string t, .slice A m c, .int .i64 q, .bool rr] 29)).alloc (.cells #[.int .i64 30000] 92)) (w.heap.size + 1 + 1) 30000 :=
    Cnt.fresh (by simp) 30000 92 (by decide) (by decide)
  have hb3 : Below w.heap.size w (((w.alloc (.cells #[.int .i64 autos, .slice As I.ses.length cs, .slice Ar nr cr, .slice Ag I.groups.length cg] 26)).alloc (.cells #[.string t, .slice A m c, .int .i64 q, .bool rr] 29)).alloc (.cells #[.int .i64 30000] 92)) :=
    (((Below.refl _ _).alloc (Nat.le_refl _) _).alloc (by simp) _).alloc (by simp; omega) _
  have hsz3 : (((w.alloc (.cells #[.int .i64 autos, .slice As I.ses.length cs, .slice Ar nr cr, .slice Ag I.groups.length cg] 26)).alloc (.cells #[.string t, .slice A m c, .int .i64 q, .bool rr] 29)).alloc (.cells #[.int .i64 30000] 92)).heap.size = w.heap.size + 1 + 1 + 1 := by simp
  have M0 := Lib.hid (m0' 0 _ rfl)
  have M1 := Lib.hid (m0' 1 _ rfl)
  have M2 := Lib.hid (m0' 2 _ rfl)
  have M3 := Lib.hid (m0' 3 _ rfl)
  have I1 := Lib.hid i1
  clear m0 m0' i1
  have HS3 := Lib.hid hsz3
  clear hsz3
  go_wp2_with fail
  generalize hW : (((w.alloc (.cells #[.int .i64 autos, .slice As I.ses.length cs, .slice Ar nr cr, .slice Ag I.groups.length cg] 26)).alloc (.cells #[.string t, .slice A m c, .int .i64 q, .bool rr] 29)).alloc (.cells #[.int .i64 30000] 92)) = w3 at *
  clear hW
  refine (cimg_any _ 30000 autos _ _ _ I w3 hc3 w.heap.size (HI.out.below hb3) (by omega)).mono ?_
  rintro e w4 ⟨rfl, y4, h4, hy4, hI4⟩
  have p0 := h4.cell_far M0.out (by omega)
  have p1 := h4.cell_far M1.out (by omega)
  have p2 := h4.cell_far M2.out (by omega)
  have p3 := h4.cell_far M3.out (by omega)
  go_wp2_with fail
  refine (cmsg_any _ y4 t A m c q rr w4 h4.re ht hm).mono ?_
  rintro e w5 ⟨rfl, y5, h5, hy5, hI5⟩
  clear p0 p1 p2 p3 M0 M1 M2 M3
  go_wp2_with fail
  refine (ctext_any _ y5 s w5 h5.re hs).mono ?_
  rintro e w6 ⟨rfl, h6⟩
  have h36 := (h4.trans h5).trans h6
  have hle : addS (addS y5 1) s.size ≤ y5 := by
    have := addS_le (addS y5 1) s.size (by omega); have := addS_le y5 1 (by omega); omega
  generalize hy6 : addS (addS y5 1) s.size = y6 at *
  have HF := Lib.hid (show 0 ≤ y6 → ((I.ses.length : Int) ≤ 30000 ∧ (∀ S ∈ I.ses, SesOk 30000 S) ∧ (I.groups.length : Int) ≤ 30000 ∧ ∀ g ∈ I.groups, (g.1.size : Int) ≤ 30000 ∧ (g.2.size : Int) ≤ 30000) ∧ (t.size : Int) ≤ 30000 from fun h => ⟨hI4 (by omega), by have := hI5 (by omega); omega⟩)
  clear hI4 hI5 hy6 h4 h5 h6
  have H36 := Lib.hid h36
  have hc36 := h36.cell
  have i6 := h36.cell_far I1.out (by omega)
  have hbel : Below w.heap.size w w6 := hb3.trans ((h36.below (by rw [HS3.out]; omega)).mono (by omega))
  have hBI := HI.out.below hbel
  have HBI := Lib.hid hBI
  obtain ⟨As', cs', e1, e2, e3, e4⟩ := hBI.ses
  cases e1
  clear hBI
  go_wp2
  go_loop [8] (fun i => ∃ k : Nat, i = .int .i64 k ∧ k ≤ I.ses.length ∧ Hid (∀ S ∈ I.ses.take k, S.subs.length ≤ 40)) (fun i => I.ses.length - (intOf i).toNat)
  case atStart => exact ⟨0, rfl, by omega, fun S hS => by simp at hS⟩
  case round =>
    obtain ⟨k, rfl, hk, HK⟩ := hrel
    by_cases hlt : k < I.ses.length
    · by_cases h0 : 0 ≤ y6
      · obtain ⟨bb, oo, rfl, hbb, hcell⟩ := e4 (by omega)
        obtain ⟨cs, hses, hcs⟩ := hcell k hlt
        obtain ⟨_, ⟨us, uf, uq, last, Ai, nf, nq, ni, ci, rfl, r1, r2, r3, r4⟩, hcl, hsu⟩ := hses
        have g1 := hcs 1 _ rfl
        obtain ⟨Au, cu, rfl, _, _, _⟩ := r1
        clear hcs hcell e4 r2 r3
        by_cases h40 : 40 < I.ses[k].subs.length
        · have h40' : decide ((40 : Int) < (I.ses[k].subs.length : Int)) = true := by simp; omega
          go_wp2_with (go_at_call 16; refine (ok_any _ y6 _ hc36).mono ?_; rintro e w' ⟨rfl, rfl⟩)
          go_ret
          exact ⟨⟨_, rfl, fun h => by cases h⟩, hbel⟩
        · have h40' : decide ((40 : Int) < (I.ses[k].subs.length : Int)) = false := by simp; omega
          go_wp2_with (go_at_call 16; refine (ok_any _ y6 _ hc36).mono ?_; rintro e w' ⟨rfl, rfl⟩)
          go_round
          case rel => exact ⟨k + 1, by go_num, by omega, fun S hS => by
            rw [List.take_succ_eq_append_getElem hlt] at hS
            rcases List.mem_append.1 hS with hS | hS
            · exact HK.out S hS
            · simp at hS; subst hS; omega⟩
          case measure => simp [intOf]; omega
      · have h0' : decide (0 ≤ y6) = false := by simpa using h0
        clear e4
        go_wp2_with (go_at_call 16; refine (ok_any _ y6 _ hc36).mono ?_; rintro e w' ⟨rfl, rfl⟩)
        go_ret
        exact ⟨⟨_, rfl, fun h => by (simp at h; try omega)⟩, hbel⟩
    · clear e4
      go_wp2_with (go_at_call 16; refine (ok_any _ y6 _ hc36).mono ?_; rintro e w' ⟨rfl, rfl⟩)
      go_ret
      refine ⟨⟨_, rfl, fun h => ?_⟩, hbel⟩
      have h0 : 0 ≤ y6 := by simpa using h
      obtain ⟨⟨f1, f2, f3, f4⟩, f5⟩ := HF.out h0
      have hk2 := HK.out
      rw [List.take_of_length_le (by omega)] at hk2
      exact ⟨by omega, f2, hk2, by omega, fun g hg => by have := f4 g hg; omega, by omega⟩
end Go.Proofs.YtjeafniglnnkhaaGreatDoor
