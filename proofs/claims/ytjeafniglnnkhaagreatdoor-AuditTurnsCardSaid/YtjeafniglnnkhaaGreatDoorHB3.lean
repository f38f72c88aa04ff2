/- Walks: the count of an image. -/
import Derived.Test.YtjeafniglnnkhaaGreatDoorHB2
namespace Go.Proofs.YtjeafniglnnkhaaGreatDoor
open Go.RowKit

theorem Cnt.below {w w' : World} {b : Nat} {y : Int} (h : Cnt w w' b y) (hb : b < w.heap.size) : Below b w w' :=
  ⟨h.grown.os, h.grown.tape, h.grown.output, h.grown.size, fun k hk => h.grown.block k (by omega) (fun e => by injection e; omega)⟩

theorem box_cell (w : World) (cs : Array Value) (t : TypeId) (k : Nat) {u : Value} (hu : cs[k]? = some u) : (w.alloc (.cells cs t)).cell? ⟨w.heap.size, k, none⟩ = some u := by
  have : (w.alloc (.cells cs t)).heap[w.heap.size]? = some (.cells cs t (0, 0)) := heap_alloc_new w _
  rw [cell_of_row _ _ k _ t (0, 0) this]
  exact hu

def SesOk (x : Int) (S : Ses) : Prop := (S.client.size : Int) ≤ x ∧ ∀ a ∈ S.subs, (a.1.size : Int) ≤ x

theorem sumAsk_nonneg : ∀ l : List (ByteArray × Int), 0 ≤ sumAsk l
  | [] => by simp [sumAsk]
  | a :: l => by
    have := sumAsk_nonneg l
    unfold sumAsk at *
    simp only [List.map_cons, List.sum_cons]
    omega
theorem sumAsk_mem : ∀ (l : List (ByteArray × Int)) (a : ByteArray × Int), a ∈ l → (a.1.size : Int) ≤ sumAsk l
  | b :: l, a, h => by
    have h0 := sumAsk_nonneg l
    have hs : sumAsk (b :: l) = (b.1.size : Int) + 1 + sumAsk l := by simp [sumAsk]
    rcases List.mem_cons.1 h with rfl | h
    · omega
    · have := sumAsk_mem l a h
      omega

def ImgCount (I : Img) (w : World) (b : Nat) (x : Int) (e : Ending) (w' : World) : Prop :=
  e = .returned (.tuple #[]) ∧ ∃ y, Cnt w w' b y ∧ y ≤ x ∧ (0 ≤ y → (I.ses.length : Int) ≤ x ∧ (∀ S ∈ I.ses, SesOk x S) ∧ (I.groups.length : Int) ≤ x ∧ ∀ g ∈ I.groups, (g.1.size : Int) ≤ x ∧ (g.2.size : Int) ≤ x)

theorem img_step {I : Img} {k ni : Nat} {x y y2 y3 : Int} (H : 0 ≤ y → y + k ≤ x ∧ ∀ S ∈ I.ses.take k, SesOk x S) (hlt : k < I.ses.length) (h2 : 0 ≤ y2 → y2 = addS (addS y 1) I.ses[k].client.size - sumAsk I.ses[k].subs) (h3 : y3 ≤ y2) :
    True ∧ (0 ≤ addS y3 ni → addS y3 ni + ((k + 1 : Nat) : Int) ≤ x ∧ ∀ S ∈ I.ses.take (k + 1), SesOk x S) := by
  refine ⟨trivial, fun h => ?_⟩
  obtain ⟨h4, h5⟩ := addS_pos h (by omega)
  have h6 := h2 (by omega)
  have hs := sumAsk_nonneg I.ses[k].subs
  obtain ⟨h7, h8⟩ := text_pos (x := y) (n := I.ses[k].client.size) (by omega)
  obtain ⟨h9, h10⟩ := H h8
  refine ⟨by omega, fun S hS => ?_⟩
  rw [List.take_succ_eq_append_getElem hlt] at hS
  rcases List.mem_append.1 hS with hS | hS
  · exact h10 S hS
  · simp at hS
    subst hS
    refine ⟨by omega, fun a ha => ?_⟩
    have := sumAsk_mem _ a ha
    omega

theorem grp_step {I : Img} {j : Nat} {x z : Int} {P : Prop} (H : 0 ≤ z → z + j ≤ x ∧ P ∧ ∀ g ∈ I.groups.take j, (g.1.size : Int) ≤ x ∧ (g.2.size : Int) ≤ x) (hlt : j < I.groups.length)
    (h : 0 ≤ addS (addS (addS (addS z 1) I.groups[j].1.size) 1) I.groups[j].2.size) :
    addS (addS (addS (addS z 1) I.groups[j].1.size) 1) I.groups[j].2.size + ((j + 1 : Nat) : Int) ≤ x ∧ P ∧ ∀ g ∈ I.groups.take (j + 1), (g.1.size : Int) ≤ x ∧ (g.2.size : Int) ≤ x := by
  obtain ⟨h1, h2⟩ := text_pos h
  obtain ⟨h3, h4⟩ := text_pos h2
  obtain ⟨h5, h6, h7⟩ := H h4
  refine ⟨by omega, h6, fun g hg => ?_⟩
  rw [List.take_succ_eq_append_getElem hlt] at hg
  rcases List.mem_append.1 hg with hg | hg
  · exact h7 g hg
  · simp at hg
    subst hg
    omega

set_option maxRecDepth 100000 in
set_option maxHeartbeats 2000000 in
theorem cimg_any (b : Nat) (x : Int) (autos : Int) (vs vr vg : Value) (I : Img) (w : World) (h : Cnt w w b x) (B : Nat) (hI : IsImg w B vs vr vg I) (hB : B ≤ b) :
    Calls Tryz.prog 13 #[.pointer (some ⟨b, 0, none⟩), .agg #[.int .i64 autos, vs, vr, vg]] w (ImgCount I w b x) := by
  have hbw : b < w.heap.size := World.block_lt_of_cell? w ⟨b, 0, none⟩ h.cell
  obtain ⟨nr, hret⟩ := hI.ret
  have HI := Lib.hid hI
  obtain ⟨A, c, rfl, hc, hn, hA⟩ := hI.ses
  obtain ⟨Ar, cr, rfl, hcr, hnr, hAr⟩ := hret
  obtain ⟨Ag, cg, rfl, hcg, hng, hAg⟩ := hI.groups
  have ha := h.alloc (.cells #[.int .i64 autos, .slice A I.ses.length c, .slice Ar nr cr, .slice Ag I.groups.length cg] 26)
  have hbox : ∀ (k : Nat) u, (#[Value.int .i64 autos, .slice A I.ses.length c, .slice Ar nr cr, .slice Ag I.groups.length cg] : Array Value)[k]? = some u → (w.alloc (.cells #[.int .i64 autos, .slice A I.ses.length c, .slice Ar nr cr, .slice Ag I.groups.length cg] 26)).cell? ⟨w.heap.size, k, none⟩ = some u := fun k u hu => by
    have : (w.alloc (.cells #[.int .i64 autos, .slice A I.ses.length c, .slice Ar nr cr, .slice Ag I.groups.length cg] 26)).heap[w.heap.size]? = some (.cells #[.int .i64 autos, .slice A I.ses.length c, .slice Ar nr cr, .slice Ag I.groups.length cg] 26 (0, 0)) := heap_alloc_new w _
    rw [cell_of_row _ _ k _ 26 (0, 0) this]
    exact hu
  generalize hw0 : w.alloc (.cells #[.int .i64 autos, .slice A I.ses.length c, .slice Ar nr cr, .slice Ag I.groups.length cg] 26) = w0 at ha hbox
  have hbel0 : Below w.heap.size w w0 := by rw [← hw0]; exact (Below.refl _ _).alloc (Nat.le_refl _) _
  have hsz0 : w.heap.size < w0.heap.size := by rw [← hw0]; simp
  have HW := Lib.hid hw0
  have HBOX := Lib.hid hbox
  have HA := Lib.hid ha
  have HRET := Lib.hid (show IsRows w B 4 (.slice Ar nr cr) nr MsgCells from ⟨Ar, cr, rfl, hcr, hnr, hAr⟩)
  clear hA hAr hAg hI hw0 hbox
  go_enter Tryz.func13, Tryz.ntmps13
  go_wp2
  rw [HW.out]
  go_loopw [4] (fun i wr => ∃ (k : Nat) (y : Int), i = .int .i64 k ∧ k ≤ I.ses.length ∧ Cnt w0 wr b y ∧ y ≤ x ∧ Hid (0 ≤ y → y + k ≤ x ∧ ∀ S ∈ I.ses.take k, SesOk x S)) (fun i _ => I.ses.length - (intOf i).toNat)
  case atStart => exact ⟨0, x, rfl, by omega, ha.re, by omega, fun _ => ⟨by omega, by simp⟩⟩
  case round =>
    obtain ⟨k, y, rfl, hk, hy, hyx, HY⟩ := hrel
    have hcy := hy.cell
    have b1 := hy.cell_far (HBOX.out 1 _ rfl) (by omega)
    have b2 := hy.cell_far (HBOX.out 2 _ rfl) (by omega)
    have b3 := hy.cell_far (HBOX.out 3 _ rfl) (by omega)
    by_cases hlt : k < I.ses.length
    · by_cases h0 : 0 ≤ y
      · have hbel : Below B w wr := (hbel0.mono (by omega)).trans ((hy.below (by omega)).mono hB)
        obtain ⟨A', c', e1, e2, e3, e4⟩ := (HI.out.below hbel).ses
        cases e1
        obtain ⟨bb, oo, rfl, hbb, hcell⟩ := e4 (by omega)
        obtain ⟨cs, hses, hcs⟩ := hcell k hlt
        obtain ⟨_, ⟨us, uf, uq, last, Ai, nf, nq, ni, ci, rfl, r1, r2, r3, r4⟩, hcl, hsu⟩ := hses
        have g0 := hcs 0 _ rfl
        have g1 := hcs 1 _ rfl
        have g2 := hcs 2 _ rfl
        have g3 := hcs 3 _ rfl
        have g4 := hcs 4 _ rfl
        have g5 := hcs 5 _ rfl
        simp only [Nat.add_zero] at g0
        clear hcs hcell e4
        have R1 := Lib.hid r1
        have R2 := Lib.hid r2
        have R3 := Lib.hid r3
        obtain ⟨Au, cu, rfl, _, _, _⟩ := r1
        obtain ⟨Af, cf, rfl, _, _, _⟩ := r2
        obtain ⟨Aq, cq, rfl, _, _, _⟩ := r3
        have hbwr : b < wr.heap.size := World.block_lt_of_cell? wr ⟨b, 0, none⟩ hcy
        go_wp2_with fail
        refine (ok_any b y _ hcy).mono ?_
        rintro e w' ⟨rfl, rfl⟩
        generalize hS : (#[.string I.ses[k].client, .slice Au I.ses[k].subs.length cu, .int .i64 last, .slice Af nf cf, .slice Aq nq cq, .slice Ai ni ci] : Array Value) = scs
        have q0 : scs[0]? = some (.string I.ses[k].client) := by rw [← hS]; rfl
        have q1 : scs[1]? = some (.slice Au I.ses[k].subs.length cu) := by rw [← hS]; rfl
        have q2 : scs[2]? = some (.int .i64 last) := by rw [← hS]; rfl
        have q3 : scs[3]? = some (.slice Af nf cf) := by rw [← hS]; rfl
        have q4 : scs[4]? = some (.slice Aq nq cq) := by rw [← hS]; rfl
        have q5 : scs[5]? = some (.slice Ai ni ci) := by rw [← hS]; rfl
        have s0 := box_cell wr scs 47 0 q0
        have s1 := box_cell wr scs 47 1 q1
        have s2 := box_cell wr scs 47 2 q2
        have s3 := box_cell wr scs 47 3 q3
        have s4 := box_cell wr scs 47 4 q4
        have s5 := box_cell wr scs 47 5 q5
        have hS' := hS
        have HS := Lib.hid hS
        clear hS hS' q0 q1 q2 q3 q4 q5
        have hyW := hy.alloc (.cells scs 47)
        have HK1 := Lib.hid s1
        have HK2 := Lib.hid s2
        have HK3 := Lib.hid s3
        have HK4 := Lib.hid s4
        have HK5 := Lib.hid s5
        have HK0 := Lib.hid s0
        clear s0 s1 s2 s3 s4 s5
        have hbS : Below B w (wr.alloc (.cells scs 47)) := hbel.trans ((Below.refl _ _).alloc (by omega) _)
        have p0 := HK0.out
        go_wp2_with fail
        rw [HS.out]
        refine (ctext_any b y _ _ hyW.re hcl).mono ?_
        rintro e w1 ⟨rfl, h1⟩
        have p1 := h1.cell_far HK1.out (by omega)
        clear p0
        go_wp2_with fail
        refine (asks_any b _ _ _ w1 h1.re B ((R1.out.below ((Below.refl _ _).alloc (by omega) _) (fun _ _ h => h)).below ((h1.below (by simp; omega)).mono hB) (fun _ _ h => h)) hB hsu).mono ?_
        rintro e w2 ⟨rfl, y2, h2, hy2⟩
        have p2 := (h1.trans h2).cell_far HK2.out (by omega)
        have p3 := (h1.trans h2).cell_far HK3.out (by omega)
        have p4 := (h1.trans h2).cell_far HK4.out (by omega)
        clear p1
        go_wp2_with fail
        refine (cwin_any b y2 last _ _ nf nq w2 h2.re B ((R2.out.below ((Below.refl _ _).alloc (by omega) _) (fun _ _ h => h)).below (((h1.trans h2).below (by simp; omega)).mono hB) (fun _ _ h => h)) ((R3.out.below ((Below.refl _ _).alloc (by omega) _) (fun _ _ h => h)).below (((h1.trans h2).below (by simp; omega)).mono hB) (fun _ _ h => h)) hB).mono ?_
        rintro e w3 ⟨rfl, y3, h3, hy3, _⟩
        have p5 := ((h1.trans h2).trans h3).cell_far HK5.out (by omega)
        clear p2 p3 p4
        go_wp2_with fail
        refine (add_any b y3 ni w3 h3.re (by omega) (by omega)).mono ?_
        rintro e w4 ⟨⟨rr, rfl⟩, h4⟩
        clear p5
        go_wp2
        go_roundw
        case rel => exact ⟨k + 1, _, by go_num, by omega, hyW.trans (((h1.trans h2).trans h3).trans h4), by have := addS_le y3 ni (by omega); have := img_step HY.out hlt hy2 hy3 (x := x) (ni := ni); omega, (img_step HY.out hlt hy2 hy3).2⟩
        case measure => simp [intOf]; omega
      · have h0' : decide (0 ≤ y) = false := by simpa using h0
        have HP := Lib.hid (show 0 ≤ y → (I.ses.length : Int) ≤ x ∧ ∀ S ∈ I.ses, SesOk x S from fun h => absurd h h0)
        have hbel : Below B w wr := (hbel0.mono (by omega)).trans ((hy.below (by omega)).mono hB)
        obtain ⟨nr', hret'⟩ := (HI.out.below hbel).ret
        have hret2 := HRET.out.below hbel (fun _ _ h => h)
        have HR2 := Lib.hid hret2
        clear hret2
        go_wp2_with (first | (go_at_call 16; refine (ok_any b y _ hcy).mono ?_; rintro e w' ⟨rfl, rfl⟩) | fail)
        refine (cmsgs_any b y _ nr wr hy.re B HR2.out hB).mono ?_
        rintro e wq ⟨rfl, yq, hq, hqx, _⟩
        have hyq := hy.trans hq
        clear b1 b2 b3
        go_wp2
        go_loopw [6] (fun i wr => ∃ (j : Nat) (z : Int), i = .int .i64 j ∧ j ≤ I.groups.length ∧ Cnt w0 wr b z ∧ z ≤ x ∧ Hid (0 ≤ z → z + j ≤ x ∧ ((I.ses.length : Int) ≤ x ∧ ∀ S ∈ I.ses, SesOk x S) ∧ ∀ g ∈ I.groups.take j, (g.1.size : Int) ≤ x ∧ (g.2.size : Int) ≤ x)) (fun i _ => I.groups.length - (intOf i).toNat)
        case atStart => exact ⟨0, yq, rfl, by omega, hyq, by omega, fun h => ⟨by omega, HP.out (by omega), by simp⟩⟩
        case round =>
          obtain ⟨j, z, rfl, hj, hz, hzx, HZ⟩ := hrel
          have hcz := hz.cell
          have b3 := hz.cell_far (HBOX.out 3 _ rfl) (by omega)
          by_cases hltj : j < I.groups.length
          · by_cases hz0 : 0 ≤ z
            · have hbelz : Below B w wr := (hbel0.mono (by omega)).trans ((hz.below (by omega)).mono hB)
              obtain ⟨Ag', cg', e1, e2, e3, e4⟩ := (HI.out.below hbelz).groups
              cases e1
              obtain ⟨bg, og, rfl, hbg, hcell⟩ := e4 (by omega)
              obtain ⟨cs, ⟨_, rfl⟩, hcs⟩ := hcell j hltj
              have g0 := hcs 0 _ rfl
              have g1 := hcs 1 _ rfl
              simp only [Nat.add_zero] at g0
              obtain ⟨hz1, hz2⟩ := HI.out.gsize _ (List.getElem_mem hltj)
              clear hcs hcell e4
              go_wp2_with fail
              refine (ok_any b z _ hcz).mono ?_
              rintro e w' ⟨rfl, rfl⟩
              go_wp2_with fail
              refine (ctext_any b z _ _ hz.re hz1).mono ?_
              rintro e w1 ⟨rfl, h1⟩
              have b4 := h1.cell_far b3 (by omega)
              have g2 := h1.cell_far g1 (by omega)
              clear b3 g0 g1
              go_wp2_with fail
              refine (ctext_any b _ _ _ h1.re hz2).mono ?_
              rintro e w2 ⟨rfl, h2⟩
              clear b4 g2
              go_wp2
              go_roundw
              case rel => exact ⟨j + 1, _, by go_num, by omega, hz.trans (h1.trans h2), by have := addS_le (addS (addS (addS z 1) I.groups[j].1.size) 1) I.groups[j].2.size (by omega); have := addS_le (addS (addS z 1) I.groups[j].1.size) 1 (by omega); have := addS_le (addS z 1) I.groups[j].1.size (by omega); have := addS_le z 1 (by omega); omega, grp_step HZ.out hltj⟩
              case measure => simp [intOf]; omega
            · have hz0' : decide (0 ≤ z) = false := by simpa using hz0
              go_wp2_with (first | (go_at_call 16; refine (ok_any b z _ hcz).mono ?_; rintro e w' ⟨rfl, rfl⟩) | fail)
              go_end0
              exact ⟨rfl, z, HA.out.trans hz, hzx, fun h => by omega⟩
          · go_wp2
            go_end0
            refine ⟨rfl, z, HA.out.trans hz, hzx, fun h => ?_⟩
            obtain ⟨h1, ⟨h2, h3⟩, h4⟩ := HZ.out h
            rw [List.take_of_length_le (by omega)] at h4
            exact ⟨h2, h3, by omega, h4⟩
    · have HP := Lib.hid (show 0 ≤ y → (I.ses.length : Int) ≤ x ∧ ∀ S ∈ I.ses, SesOk x S from fun h => by
        obtain ⟨h1, h2⟩ := HY.out h
        rw [List.take_of_length_le (by omega)] at h2
        exact ⟨by omega, h2⟩)
      have hbel : Below B w wr := (hbel0.mono (by omega)).trans ((hy.below (by omega)).mono hB)
      obtain ⟨nr', hret'⟩ := (HI.out.below hbel).ret
      have hret2 := HRET.out.below hbel (fun _ _ h => h)
      have HR2 := Lib.hid hret2
      clear hret2
      go_wp2_with (first | (go_at_call 16; refine (ok_any b y _ hcy).mono ?_; rintro e w' ⟨rfl, rfl⟩) | fail)
      refine (cmsgs_any b y _ nr wr hy.re B HR2.out hB).mono ?_
      rintro e wq ⟨rfl, yq, hq, hqx, _⟩
      have hyq := hy.trans hq
      clear b1 b2 b3
      go_wp2
      go_loopw [6] (fun i wr => ∃ (j : Nat) (z : Int), i = .int .i64 j ∧ j ≤ I.groups.length ∧ Cnt w0 wr b z ∧ z ≤ x ∧ Hid (0 ≤ z → z + j ≤ x ∧ ((I.ses.length : Int) ≤ x ∧ ∀ S ∈ I.ses, SesOk x S) ∧ ∀ g ∈ I.groups.take j, (g.1.size : Int) ≤ x ∧ (g.2.size : Int) ≤ x)) (fun i _ => I.groups.length - (intOf i).toNat)
      case atStart => exact ⟨0, yq, rfl, by omega, hyq, by omega, fun h => ⟨by omega, HP.out (by omega), by simp⟩⟩
      case round =>
        obtain ⟨j, z, rfl, hj, hz, hzx, HZ⟩ := hrel
        have hcz := hz.cell
        have b3 := hz.cell_far (HBOX.out 3 _ rfl) (by omega)
        by_cases hltj : j < I.groups.length
        · by_cases hz0 : 0 ≤ z
          · have hbelz : Below B w wr := (hbel0.mono (by omega)).trans ((hz.below (by omega)).mono hB)
            obtain ⟨Ag', cg', e1, e2, e3, e4⟩ := (HI.out.below hbelz).groups
            cases e1
            obtain ⟨bg, og, rfl, hbg, hcell⟩ := e4 (by omega)
            obtain ⟨cs, ⟨_, rfl⟩, hcs⟩ := hcell j hltj
            have g0 := hcs 0 _ rfl
            have g1 := hcs 1 _ rfl
            simp only [Nat.add_zero] at g0
            obtain ⟨hz1, hz2⟩ := HI.out.gsize _ (List.getElem_mem hltj)
            clear hcs hcell e4
            go_wp2_with fail
            refine (ok_any b z _ hcz).mono ?_
            rintro e w' ⟨rfl, rfl⟩
            go_wp2_with fail
            refine (ctext_any b z _ _ hz.re hz1).mono ?_
            rintro e w1 ⟨rfl, h1⟩
            have b4 := h1.cell_far b3 (by omega)
            have g2 := h1.cell_far g1 (by omega)
            clear b3 g0 g1
            go_wp2_with fail
            refine (ctext_any b _ _ _ h1.re hz2).mono ?_
            rintro e w2 ⟨rfl, h2⟩
            clear b4 g2
            go_wp2
            go_roundw
            case rel => exact ⟨j + 1, _, by go_num, by omega, hz.trans (h1.trans h2), by have := addS_le (addS (addS (addS z 1) I.groups[j].1.size) 1) I.groups[j].2.size (by omega); have := addS_le (addS (addS z 1) I.groups[j].1.size) 1 (by omega); have := addS_le (addS z 1) I.groups[j].1.size (by omega); have := addS_le z 1 (by omega); omega, grp_step HZ.out hltj⟩
            case measure => simp [intOf]; omega
          · have hz0' : decide (0 ≤ z) = false := by simpa using hz0
            go_wp2_with (first | (go_at_call 16; refine (ok_any b z _ hcz).mono ?_; rintro e w' ⟨rfl, rfl⟩) | fail)
            go_end0
            exact ⟨rfl, z, HA.out.trans hz, hzx, fun h => by omega⟩
        · go_wp2
          go_end0
          refine ⟨rfl, z, HA.out.trans hz, hzx, fun h => ?_⟩
          obtain ⟨h1, ⟨h2, h3⟩, h4⟩ := HZ.out h
          rw [List.take_of_length_le (by omega)] at h4
          exact ⟨h2, h3, by omega, h4⟩
end Go.Proofs.YtjeafniglnnkhaaGreatDoor
