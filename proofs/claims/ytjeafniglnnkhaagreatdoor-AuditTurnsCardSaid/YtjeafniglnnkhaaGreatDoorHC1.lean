/- Walk: audit.gathered. -/
import Derived.Test.YtjeafniglnnkhaaGreatDoorHS5
import Derived.Test.YtjeafniglnnkhaaGreatDoorHL1
import Derived.Sort.OwnSorted
namespace Go.Proofs.YtjeafniglnnkhaaGreatDoor
open Go.RowKit Go.Sort Go.Maps Go.WideMaps

theorem info69 : (Tryz.prog.info? 69).map (fun i => (i.zero, i.size, i.bytes)) = some (some (.agg #[.string ByteArray.empty, .int .i64 0]), 2, 24) := by kernel_rfl
theorem law9 : Keyed Tryz.prog 9 := string_keyed Tryz.underlying9
theorem zero3 (w : World) : (zeroValue 3).run Tryz.prog w = .ok (.int .i64 0) w := by kernel_rfl

def cmpE (x y : ByteArray × Int) : Int := cmpS x.1 y.1
theorem cmpE_swo : SWO (ltOf cmpE) :=
  have h := cmpS_cmp.swo
  ⟨fun x => h.irrefl x.1, fun x y z => h.trans x.1 y.1 z.1, fun x y z => h.ntrans x.1 y.1 z.1⟩

set_option maxHeartbeats 400000 in
theorem sortE_any (g n cap base : Nat) (es : List (ByteArray × Int)) (w : World) (h : w.ownsRow base 69 2 (.slice (some ⟨g, 0, none⟩) n cap) n (es.flatMap encE)) (hn : n ≤ 10000000) :
    Calls Tryz.prog 63 #[.slice (some ⟨g, 0, none⟩) n cap, .func (.func 64) #[] #[]] w fun e w' => e = .returned (.tuple #[]) ∧ ∃ es' : List (ByteArray × Int), es'.Perm es ∧ es'.Pairwise (fun a b => ¬ cmpS b.1 a.1 < 0) ∧
      w'.ownsRow base 69 2 (.slice (some ⟨g, 0, none⟩) n cap) n (es'.flatMap encE) ∧ ∀ B w0, Below B w0 w → B ≤ base → Below B w0 w' := by
  have hlen : es.length = n := by
    have := h.1
    rw [flat_length encE 2 encE_len] at this
    omega
  obtain ⟨hb, hg, hH⟩ := holds_own h
  rw [← flatK_flat encE 2 encE_len (by decide)] at hH
  have hsz : es.toArray.size < 4611686018427387904 := by rw [List.size_toArray]; omega
  have hcon := AnyQ.slices_SortFunc Tryz.layE63 2 Tryz.isAgg69 Tryz.sizeOf69 encE encE_len encE_one cmpE cmpE_swo 64 #[] g 0 cap es.toArray w (enters_of Tryz.func64 (by kernel_rfl) rfl) (by
    intro m os dk hdk x y
    refine (byKey_any x.1 y.1 x.2 y.2 _).mono ?_
    rintro e w' ⟨rfl, hL⟩
    exact ⟨rfl, hL.grow⟩) hH hg hsz
  rw [show es.toArray.size = n by simp [hlen]] at hcon
  refine hcon.mono ?_
  rintro e w' ⟨rfl, d', m, os, hp, hs, rfl⟩
  obtain ⟨d', rfl⟩ : ∃ l : List (ByteArray × Int), d' = l.toArray := ⟨d'.toList, by simp⟩
  have hpl : d'.Perm es := by
    have h3 := hp.2.2
    have hs1 := hp.1
    simp at hs1
    have e1 : (es.toArray.extract 0 n).toList = es := by rw [← hlen]; simp
    have e2 : (d'.toArray.extract 0 n).toList = d' := by rw [← hlen, ← hs1]; simp
    rwa [e1, e2] at h3
  have hd : d'.length = n := by rw [hpl.length_eq, hlen]
  refine ⟨rfl, d', hpl, ?_, ?_, ?_⟩
  · rw [List.pairwise_iff_getElem]
    intro i j hi hj hij h0
    have := hs i j (Nat.zero_le _) hij (by omega)
    simp [hi, hj, ltOf, cmpE] at this
    omega
  · unfold sortWorldK putRowK
    rw [flatK_flat encE 2 encE_len (by decide)]
    exact owns_grow (own_put (q := m) h (by rw [flat_length encE 2 encE_len, flat_length encE 2 encE_len, hd, hlen])) os
  · intro B w0 hbw hB
    refine below_grow (Lib.below_putRow hbw (by omega)) ?_ os
    simp [putRow, mapBlock, Sort.ahead]
    exact Nat.le_trans hB (Nat.le_trans hb (Nat.le_of_lt hg))

def GatherPost (w : World) (m : KeyMap) (e : Ending) (w' : World) : Prop := ∃ (v : Value) (es : List (ByteArray × Int)), e = .returned v ∧ IsGathered m es ∧ w'.ownsRow w.heap.size 69 2 v es.length (es.flatMap encE) ∧ Below w.heap.size w w'

/-- What is asked of the test that is handed in. -/
def Tests (w : World) (I : Img) (g : Nat) (cb : Array Value) (p : ByteArray × Int → Bool) : Prop :=
  ∀ S ∈ I.ses, ∀ a ∈ S.subs, ∀ W, Below w.heap.size w W → Calls Tryz.prog g (#[.agg #[.string a.1, .int .i64 a.2]] ++ cb) W fun e w' => e = .returned (.bool (p a)) ∧ Below W.heap.size W w'

theorem map_below {w w' : World} {b n : Nat} {D : DataW Unit} (h : w.ownsMap Tryz.prog 9 (plainElem Tryz.prog 3) b n D) (hb : Below w.heap.size w w') : w'.ownsMap Tryz.prog 9 (plainElem Tryz.prog 3) b n D :=
  h.kept (row := none) ⟨hb.os, hb.tape, hb.output, hb.size, fun k hk _ => hb.block k hk⟩ (by simp)

set_option maxRecDepth 100000 in
set_option maxHeartbeats 4000000 in
theorem gathered_any (autos : Int) (vs vr vg : Value) (I : Img) (w : World) (B : Nat) (hI : IsImg w B vs vr vg I) (hB : B ≤ w.heap.size) (hns : I.ses.length ≤ 30000) (hsub : ∀ S ∈ I.ses, S.subs.length ≤ 40) (hcl : ∀ S ∈ I.ses, S.client.size ≤ 1000000)
    (g : Nat) (cb : Array Value) (eg : ∀ args w, (callFunc g args).run Tryz.prog w = .ok (.enter g args) w) (p : ByteArray × Int → Bool) (hp : Tests w I g cb p) :
    Calls Tryz.prog 29 #[.agg #[.int .i64 autos, vs, vr, vg], .func (.func g) #[] cb] w (GatherPost w (sesM p I.ses fun _ => none)) := by
  obtain ⟨As, cs, Ar, nr, cr, Ag, cg, rfl, rfl, rfl, hcs, hcg, hns1, hng⟩ := hI.vals
  obtain ⟨w0, hw0, hb0, hsz0, hI0, i0, i1, i2, i3⟩ := boxed (autos := autos) hI hB
  have HW := Lib.hid hw0
  have HI := Lib.hid hI0
  have HP := Lib.hid hp
  have I1 := Lib.hid i1
  clear hI hw0 hI0 i0 i2 i3 i1 hp
  have hmm := @run_makeMap Tryz.prog
  have hmk := World.ownsMap_made (H := Unit) w0 Tryz.prog 9 (plainElem Tryz.prog 3)
  rw [hsz0] at hmk
  have hbm : Below w0.heap.size w0 (w0.alloc (.map #[] 0)) := (Below.refl _ _).alloc (Nat.le_refl _) _
  have b1 := (hbm.cell (p := ⟨w.heap.size, 1, none⟩) (by show w.heap.size < _; omega)).trans I1.out
  go_enter Tryz.func29, Tryz.ntmps29
  go_wp2
  rw [← HW.out]
  generalize hw1 : w0.alloc (.map #[] 0) = w1 at *
  clear hw1 hmm
  go_loopw [20] (fun i wr => ∃ (k n : Nat) (D : DataW Unit), i = .int .i64 k ∧ k ≤ I.ses.length ∧ n ≤ 40 * k ∧ wr.ownsMap Tryz.prog 9 (plainElem Tryz.prog 3) (w.heap.size + 1) n D ∧ Hid (MapIs D (sesM p (I.ses.take k) fun _ => none)) ∧ Below w0.heap.size w0 wr) (fun i _ => I.ses.length - (intOf i).toNat)
  case atStart => exact ⟨0, 0, _, rfl, by omega, by omega, hmk, MapIs.empty, hbm⟩
  case round =>
    obtain ⟨k, n, D, rfl, hk, hn, hown, HM, hbr⟩ := hrel
    clear hmk hbm b1
    by_cases hlt : k < I.ses.length
    · obtain ⟨bb, oo, rfl, hbb, Au, Af, Aq, Ai, cu, cf, cq, ci, nf, nq, ni, last, g0, g1, g2, g3, g4, g5, r1, hul⟩ := HI.out.at_ hlt
      have hbb0 : bb < w0.heap.size := by omega
      have q0 := (hbr.cell (p := ⟨bb, oo + k * 6, none⟩) hbb0).trans g0
      have q1 := (hbr.cell (p := ⟨bb, oo + k * 6 + 1, none⟩) hbb0).trans g1
      have q2 := (hbr.cell (p := ⟨bb, oo + k * 6 + 2, none⟩) hbb0).trans g2
      have q3 := (hbr.cell (p := ⟨bb, oo + k * 6 + 3, none⟩) hbb0).trans g3
      have q4 := (hbr.cell (p := ⟨bb, oo + k * 6 + 4, none⟩) hbb0).trans g4
      have q5 := (hbr.cell (p := ⟨bb, oo + k * 6 + 5, none⟩) hbb0).trans g5
      have R1 := Lib.hid r1
      have s0 := box_cell wr #[.string I.ses[k].client, .slice Au I.ses[k].subs.length cu, .int .i64 last, .slice Af nf cf, .slice Aq nq cq, .slice Ai ni ci] 47 0 (u := .string I.ses[k].client) rfl
      have s1 := box_cell wr #[.string I.ses[k].client, .slice Au I.ses[k].subs.length cu, .int .i64 last, .slice Af nf cf, .slice Aq nq cq, .slice Ai ni ci] 47 1 (u := .slice Au I.ses[k].subs.length cu) rfl
      have hbox : Below wr.heap.size wr (wr.alloc (.cells #[.string I.ses[k].client, .slice Au I.ses[k].subs.length cu, .int .i64 last, .slice Af nf cf, .slice Aq nq cq, .slice Ai ni ci] 47)) := (Below.refl _ _).alloc (Nat.le_refl _) _
      have hown1 := hown.alloc (.cells #[.string I.ses[k].client, .slice Au I.ses[k].subs.length cu, .int .i64 last, .slice Af nf cf, .slice Aq nq cq, .slice Ai ni ci] 47)
      have hwr := hbr.size
      have hml := hown.lt
      clear g0 g1 g2 g3 g4 g5 r1
      go_wp2
      generalize wr.alloc (.cells #[.string I.ses[k].client, .slice Au I.ses[k].subs.length cu, .int .i64 last, .slice Af nf cf, .slice Aq nq cq, .slice Ai ni ci] 47) = w2 at *
      have hS : I.ses[k] ∈ I.ses := List.getElem_mem hlt
      have hc40 := hsub _ hS
      have hcs := hcl _ hS
      have HT := fun a ha => Lib.hid (HP.out _ hS a ha)
      generalize hcc : I.ses[k].client = cc at *
      generalize hll : I.ses[k].subs = ll at *
      have hb2 : Below w0.heap.size w0 w2 := hbr.trans (hbox.mono hwr)
      have hw2 : wr.heap.size < w2.heap.size := World.block_lt_of_cell? w2 ⟨wr.heap.size, 0, none⟩ s0
      have HM0 := Lib.hid (show MapIs D (subsM p cc.data.toList (ll.take 0) (sesM p (I.ses.take k) fun _ => none)) from HM.out)
      have HLC := Lib.hid (And.intro hcc hll)
      clear hcc hll hbox
      go_loopw [27] (fun i wi => ∃ (j m : Nat) (E : DataW Unit), i = .int .i64 j ∧ j ≤ ll.length ∧ m ≤ 40 * k + j ∧ wi.ownsMap Tryz.prog 9 (plainElem Tryz.prog 3) (w.heap.size + 1) m E ∧ Hid (MapIs E (subsM p cc.data.toList (ll.take j) (sesM p (I.ses.take k) fun _ => none))) ∧ Below w0.heap.size w0 wi ∧ wi.cell? ⟨wr.heap.size, 0, none⟩ = some (.string cc)) (fun i _ => ll.length - (intOf i).toNat)
      case atStart => exact ⟨0, n, D, rfl, by omega, by omega, hown1, HM0, hb2, s0⟩
      case round =>
        obtain ⟨wo, rfl⟩ : ∃ wo : World, wo = wr := ⟨_, rfl⟩
        obtain ⟨j, m, E, rfl, hj, hm, hownE, HE, hbi, cc0⟩ := hrel
        clear q0 q1 q2 q3 q4 q5 s0 s1 hown hown1
        by_cases hjk : j < ll.length
        · obtain ⟨ba, oa, rfl, hba, a0, a1⟩ := asks_at (R1.out.below (hbi.mono (by omega)) (fun _ _ h => h)) hjk
          have HTj := HT ll[j] (List.getElem_mem hjk)
          have HST := Lib.hid (subsM_take p cc.data.toList ll (sesM p (I.ses.take k) fun _ => none) j hjk)
          clear HT
          generalize subsM p cc.data.toList (ll.take j) (sesM p (I.ses.take k) fun _ => none) = mj at *
          generalize hpa : p ll[j] = pa at *
          generalize hff : ll[j].1 = ff at *
          generalize hqq : ll[j].2 = qq at *
          have HFQ := Lib.hid (And.intro hpa (And.intro hff hqq))
          clear hpa hff hqq
          have t0 := box_cell wo #[.string ff, .int .i64 qq] 49 0 (u := .string ff) rfl
          have t1 := box_cell wo #[.string ff, .int .i64 qq] 49 1 (u := .int .i64 qq) rfl
          have cc1 := alloc_keep cc0 (.cells #[.string ff, .int .i64 qq] 49)
          have hbox : Below wo.heap.size wo (wo.alloc (.cells #[.string ff, .int .i64 qq] 49)) := (Below.refl _ _).alloc (Nat.le_refl _) _
          have hown3 := hownE.alloc (.cells #[.string ff, .int .i64 qq] 49)
          have hwi := hbi.size
          have hlen : cc.size ≤ maxLen := by unfold maxLen; omega
          have hh := (HE.out.2 cc.data.toList).1
          have HA := Lib.hid (HE.out.2 cc.data.toList).2
          have hb3 : Below w0.heap.size w0 (wo.alloc (.cells #[.string ff, .int .i64 qq] 49)) := hbi.trans (hbox.mono hwi)
          clear hbox
          by_cases hgd : goodB qq = true
          · have hwf : (Lit.int .i64 qq).wf = true := by
              simp [goodB] at hgd
              exact WalkArith.wf_i64 (by omega)
            cases hpa : pa
            · have HN := Lib.hid (show subsM p cc.data.toList (ll.take (j + 1)) (sesM p (I.ses.take k) fun _ => none) = mj by
                rw [HST.out, step_no (by rw [HFQ.out.1]; exact hpa)])
              clear hh
              subst hpa
              go_wp2_with (first | (at_lookup; refine wpList_lookup_own_ok_int _ rfl _ _ 114 rfl 9 3 .i64 law9 Tryz.underlying114 Tryz.underlying3 (zero3 _) (w.heap.size + 1) m E rfl hown3 _ _ rfl (keyOf_string_mk Tryz.underlying9 hlen) ?_; intro c hat hwc))
              generalize wo.alloc (.cells #[.string ff, .int .i64 qq] 49) = w3 at *
              refine (good_any qq _).mono ?_
              rintro e w' ⟨rfl, hw⟩
              rw [hw]
              clear hw w'
              go_wp2_with fail
              refine (HTj.out w3 (hb0.trans (hb3.mono (by omega)))).mono ?_
              rintro e w4 ⟨rfl, hb4⟩
              have hb04 := hb3.trans (hb4.mono hb3.size)
              have hown4 := map_below hown3 hb4
              have cc4 := (hb4.cell (p := ⟨wr.heap.size, 0, none⟩) (World.block_lt_of_cell? _ _ cc1)).trans cc1
              have t4 := (hb4.cell (p := ⟨wo.heap.size, 1, none⟩) (World.block_lt_of_cell? _ _ t1)).trans t1
              go_wp2
              go_roundw
              case rel => exact ⟨j + 1, m, E, by go_num, by omega, by omega, hown4, by rw [HN.out]; exact HE, hb04, cc4⟩
              case measure => simp [intOf]; omega
            · cases hmo : mj cc.data.toList with
              | none =>
                have hh0 : Maps.has E (.string cc.data.toList) = false := by rw [hh, hmo]; rfl
                have HN := Lib.hid (show subsM p cc.data.toList (ll.take (j + 1)) (sesM p (I.ses.take k) fun _ => none) = fun y => if y = cc.data.toList then some qq else mj y by
                  rw [HST.out, step_new (by rw [HFQ.out.2.2]; exact hgd) (by rw [HFQ.out.1]; exact hpa) hmo, HFQ.out.2.2])
                clear hmo hh
                subst hpa
                go_wp2_with (first | (at_lookup; refine wpList_lookup_own_ok_int _ rfl _ _ 114 rfl 9 3 .i64 law9 Tryz.underlying114 Tryz.underlying3 (zero3 _) (w.heap.size + 1) m E rfl hown3 _ _ rfl (keyOf_string_mk Tryz.underlying9 hlen) ?_; intro c hat hwc))
                generalize wo.alloc (.cells #[.string ff, .int .i64 qq] 49) = w3 at *
                refine (good_any qq _).mono ?_
                rintro e w' ⟨rfl, hw⟩
                rw [hw]
                clear hw w'
                go_wp2_with fail
                refine (HTj.out w3 (hb0.trans (hb3.mono (by omega)))).mono ?_
                rintro e w4 ⟨rfl, hb4⟩
                have hb04 := hb3.trans (hb4.mono hb3.size)
                have hown4 := map_below hown3 hb4
                have cc4 := (hb4.cell (p := ⟨wr.heap.size, 0, none⟩) (World.block_lt_of_cell? _ _ cc1)).trans cc1
                have t4 := (hb4.cell (p := ⟨wo.heap.size, 1, none⟩) (World.block_lt_of_cell? _ _ t1)).trans t1
                go_wp2_with (first | (at_mapUpdate; refine wpList_mapUpdate_own _ rfl _ _ _ 114 rfl 9 3 law9 Tryz.underlying114 _ (w.heap.size + 1) m E rfl hown4 (by unfold maxLen; omega) _ _ _ rfl rfl (keyOf_string_mk Tryz.underlying9 hlen) _ [] (plainElem_int Tryz.underlying3 hwf) ?_; intro w5 hown5 hgrow5; go_frame))
                have cc5 := (World.cell?_of_block (a := ⟨wr.heap.size, 0, none⟩) (hgrow5.block wr.heap.size (World.block_lt_of_cell? _ _ cc4) (fun e => by injection e with e; omega))).trans cc4
                go_roundw
                case rel => exact ⟨j + 1, m + 1, _, by go_num, by omega, by omega, hown5, by rw [HN.out]; exact MapIs.put HE.out _ _, hb04.grown hgrow5 hb04.size (fun j hj => by cases hj; omega), cc5⟩
                case measure => simp [intOf]; omega
              | some o =>
                have hh0 : Maps.has E (.string cc.data.toList) = true := by rw [hh, hmo]; rfl
                have HO := Lib.hid (HA.out o hmo)
                by_cases hlo : o < qq
                · have HN := Lib.hid (show subsM p cc.data.toList (ll.take (j + 1)) (sesM p (I.ses.take k) fun _ => none) = fun y => if y = cc.data.toList then some qq else mj y by
                    rw [HST.out, step_more (by rw [HFQ.out.2.2]; exact hgd) (by rw [HFQ.out.1]; exact hpa) hmo (by rw [HFQ.out.2.2]; exact hlo), HFQ.out.2.2])
                  clear hmo hh
                  subst hpa
                  go_wp2_with (first | (at_lookup; refine wpList_lookup_own_ok_int _ rfl _ _ 114 rfl 9 3 .i64 law9 Tryz.underlying114 Tryz.underlying3 (zero3 _) (w.heap.size + 1) m E rfl hown3 _ _ rfl (keyOf_string_mk Tryz.underlying9 hlen) ?_; intro c hat hwc; obtain rfl : o = c := by have h1 := (HO.out _).symm.trans hat; injection h1 with h1; injection h1))
                  generalize wo.alloc (.cells #[.string ff, .int .i64 qq] 49) = w3 at *
                  refine (good_any qq _).mono ?_
                  rintro e w' ⟨rfl, hw⟩
                  rw [hw]
                  clear hw w'
                  go_wp2_with fail
                  refine (HTj.out w3 (hb0.trans (hb3.mono (by omega)))).mono ?_
                  rintro e w4 ⟨rfl, hb4⟩
                  have hb04 := hb3.trans (hb4.mono hb3.size)
                  have hown4 := map_below hown3 hb4
                  have cc4 := (hb4.cell (p := ⟨wr.heap.size, 0, none⟩) (World.block_lt_of_cell? _ _ cc1)).trans cc1
                  have t4 := (hb4.cell (p := ⟨wo.heap.size, 1, none⟩) (World.block_lt_of_cell? _ _ t1)).trans t1
                  go_wp2_with (first | (at_mapUpdate; refine wpList_mapUpdate_own _ rfl _ _ _ 114 rfl 9 3 law9 Tryz.underlying114 _ (w.heap.size + 1) m E rfl hown4 (by unfold maxLen; omega) _ _ _ rfl rfl (keyOf_string_mk Tryz.underlying9 hlen) _ [] (plainElem_int Tryz.underlying3 hwf) ?_; intro w5 hown5 hgrow5; go_frame))
                  have cc5 := (World.cell?_of_block (a := ⟨wr.heap.size, 0, none⟩) (hgrow5.block wr.heap.size (World.block_lt_of_cell? _ _ cc4) (fun e => by injection e with e; omega))).trans cc4
                  go_roundw
                  case rel => exact ⟨j + 1, m + 1, _, by go_num, by omega, by omega, hown5, by rw [HN.out]; exact MapIs.put HE.out _ _, hb04.grown hgrow5 hb04.size (fun j hj => by cases hj; omega), cc5⟩
                  case measure => simp [intOf]; omega
                · have HN := Lib.hid (show subsM p cc.data.toList (ll.take (j + 1)) (sesM p (I.ses.take k) fun _ => none) = mj by
                    rw [HST.out, step_less hmo (by rw [HFQ.out.2.2]; exact hlo)])
                  clear hmo hh
                  subst hpa
                  go_wp2_with (first | (at_lookup; refine wpList_lookup_own_ok_int _ rfl _ _ 114 rfl 9 3 .i64 law9 Tryz.underlying114 Tryz.underlying3 (zero3 _) (w.heap.size + 1) m E rfl hown3 _ _ rfl (keyOf_string_mk Tryz.underlying9 hlen) ?_; intro c hat hwc; obtain rfl : o = c := by have h1 := (HO.out _).symm.trans hat; injection h1 with h1; injection h1))
                  generalize wo.alloc (.cells #[.string ff, .int .i64 qq] 49) = w3 at *
                  refine (good_any qq _).mono ?_
                  rintro e w' ⟨rfl, hw⟩
                  rw [hw]
                  clear hw w'
                  go_wp2_with fail
                  refine (HTj.out w3 (hb0.trans (hb3.mono (by omega)))).mono ?_
                  rintro e w4 ⟨rfl, hb4⟩
                  have hb04 := hb3.trans (hb4.mono hb3.size)
                  have hown4 := map_below hown3 hb4
                  have cc4 := (hb4.cell (p := ⟨wr.heap.size, 0, none⟩) (World.block_lt_of_cell? _ _ cc1)).trans cc1
                  have t4 := (hb4.cell (p := ⟨wo.heap.size, 1, none⟩) (World.block_lt_of_cell? _ _ t1)).trans t1
                  go_wp2
                  go_roundw
                  case rel => exact ⟨j + 1, m, E, by go_num, by omega, by omega, hown4, by rw [HN.out]; exact HE, hb04, cc4⟩
                  case measure => simp [intOf]; omega
          · have hgd' : goodB qq = false := by simpa using hgd
            have HN := Lib.hid (show subsM p cc.data.toList (ll.take (j + 1)) (sesM p (I.ses.take k) fun _ => none) = mj by
              rw [HST.out, step_bad (by rw [HFQ.out.2.2]; exact hgd')])
            clear hh hgd
            go_wp2_with (first | (at_lookup; refine wpList_lookup_own_ok_int _ rfl _ _ 114 rfl 9 3 .i64 law9 Tryz.underlying114 Tryz.underlying3 (zero3 _) (w.heap.size + 1) m E rfl hown3 _ _ rfl (keyOf_string_mk Tryz.underlying9 hlen) ?_; intro c hat hwc))
            generalize wo.alloc (.cells #[.string ff, .int .i64 qq] 49) = w3 at *
            refine (good_any qq _).mono ?_
            rintro e w' ⟨rfl, hw⟩
            rw [hw]
            clear hw w'
            go_wp2
            go_roundw
            case rel => exact ⟨j + 1, m, E, by go_num, by omega, by omega, hown3, by rw [HN.out]; exact HE, hb3, cc1⟩
            case measure => simp [intOf]; omega
        · have HN := Lib.hid (show MapIs E (sesM p (I.ses.take (k + 1)) fun _ => none) by
            rw [sesM_take p I.ses _ k hlt, HLC.out.1, HLC.out.2]
            have h := HE.out
            rwa [List.take_of_length_le (by omega)] at h)
          go_wp2
          go_roundw
          case rel => exact ⟨k + 1, m, E, by go_num, by omega, by omega, hownE, HN, hbi⟩
          case measure => simp [intOf]; omega
    · have HM1 := Lib.hid (show MapIs D (sesM p I.ses fun _ => none) by
        have h := HM.out
        rwa [List.take_of_length_le (by omega)] at h)
      obtain ⟨i0, hi, hz0, hz1, hz2⟩ := info_parts info69
      have hml := hown.lt
      have hwr := hbr.size
      go_wp2_with (first | (at_range; refine wpList_range_own _ rfl _ 114 rfl 9 3 law9 Tryz.underlying114 _ (w.heap.size + 1) n _ rfl hown ?_; intro w3 hrg0 hg0 hs0))
      go_frame
      have hnk : Maps.size D ≤ 1200000 := by have := hown.size_le; omega
      generalize hr : wr.heap.size = r at *
      go_loopw [12] (fun v wi => ∃ (left : Lit → Bool) (cnt : Nat) (ss : List (ByteArray × Int)), wi.ranges Tryz.prog 9 (plainElem Tryz.prog 3) (w.heap.size + 1) r n D left cnt ∧ ss.length + cnt ≤ Maps.size D ∧
        wi.ownsRow (r + 1) 69 2 v ss.length (ss.flatMap encE) ∧ Hid (Met (sesM p I.ses fun _ => none) left ss) ∧ Below w0.heap.size w0 wi) (fun _ wi => wi.rangeLeft (w.heap.size + 1) r)
      case atStart => exact ⟨_, _, [], hrg0, by simp, World.ownsRow_nil _ _ _ _, Met.start HM1.out, hbr.grown hg0 (by omega) (fun j hj => by cases hj)⟩
      case round =>
        obtain ⟨left, cnt, ss, hrg, hcnt, hrow, HMet, hbi⟩ := hrel
        go_wp2_with (first | (at_next; refine wpList_next_ranges _ rfl _ rfl 9 law9 (plainElem Tryz.prog 3) encStr (Value.int .i64) (fun key kl hk => by obtain ⟨x, hx, _⟩ := Maps.keyOf_str Tryz.underlying9 hk; exact ⟨x, hx⟩) (fun v y hv => by obtain ⟨c, rfl, _⟩ := plainElem_int_inv Tryz.underlying3 hv; exact ⟨c, rfl⟩) (w.heap.size + 1) r n _ _ _ rfl hrg ?_ ?_))
        · intro hc0 hl0
          obtain ⟨A, c, rfl⟩ : ∃ A c, u12 = .slice A ss.length c := by
            rcases hrow.2 with ⟨h1, h2⟩ | ⟨g', cap, cur, h1, _⟩
            · exact ⟨none, 0, by rw [h1, h2]⟩
            · exact ⟨_, _, h1⟩
          have hrl := hrg.lt
          go_wp2_with (first
            | (at_make; refine wpList_make_full _ rfl _ _ 65 rfl (r + 1) 69 i0 _ 2 Tryz.underlying65 hi hz0 hz1 _ _ _ _ ss.length rfl rfl rfl rfl (by rw [hz2]; omega) (by unfold maxLen; omega) (by omega) ?_; intro w4 hmk4 hg4; have hrow4 := hrow.kept hg4 (by cases h : (Value.slice A ss.length c).ownBlock <;> simp))
            | (refine wpList_copy_whole rfl _ _ _ _ rfl 69 i0 2 Tryz.underlying65 hi hz1 wr.heap.size (r + 1) (r + 1) ss.length _ _ _ rfl rfl hmk4 hrow4 (flatE_one _) ?_; intro w5 hcp5 hg5))
          refine (sortE_any _ _ _ _ ss _ hcp5 (by omega)).mono ?_
          rintro e w6 ⟨rfl, es, hperm, hord, hown6, hbel6⟩
          go_wp2
          go_ret
          refine ⟨_, es, rfl, HMet.out.sorted hl0 hperm (hord.imp fun h => by omega), ?_, hbel6 w.heap.size w (((hb0.trans (hbi.mono (by omega))).grown hg4 (by omega) (fun j hj => by cases hj)).grown hg5 (by have := hg4.size; omega) (fun j hj => by cases hj; omega)) (by omega)⟩
          rw [hperm.length_eq]
          exact owns_mono hown6 (by omega)
        · intro x c kl yd yp w4 cnt2 hkey hlk hv hat hrg2 hlt2 hg2 hs2 hen
          obtain ⟨x', ex, rfl, hxl⟩ := Maps.keyOf_str Tryz.underlying9 hkey
          obtain rfl : x = x' := encStr_inj ex
          obtain ⟨c', ec, hyd, hwc⟩ := plainElem_int_inv Tryz.underlying3 hv
          cases ec
          have hrow2 := hrow.kept hg2 (Or.inr (row_ne_iter hrow hrg).symm)
          have hmx : sesM p I.ses (fun _ => none) x = some c := by
            have h1 := HM1.out.2 x
            rw [Maps.has_true_of_atKey hat] at h1
            cases hm : sesM p I.ses (fun _ => none) x with
            | none => rw [hm] at h1; exact absurd h1.1 (by simp)
            | some q =>
              have h2 := h1.2 q hm (.map [])
              rw [hat] at h2
              injection hyd with h3 _
              rw [h3] at h2
              injection h2 with h2
              injection h2 with _ h2
              rw [h2]
          have hMs := Lib.hid (HMet.out.step (k := ⟨x.toArray⟩) (q := c) (by simpa using hlk) (by simpa using hmx))
          have hb4 := hbi.grown hg2 hbi.size (fun j hj => by cases hj; omega)
          have hs4 : r < w4.heap.size := by rw [hs2]; exact hrg.lt
          have hss : ss.length ≤ 10000000 := by omega
          have hcnt' : ss.length + 1 + cnt2 ≤ size D := by omega
          clear hs2
          go_wp2_with (first | (at_builtin; refine wpList_app rfl _ _ 65 rfl (r + 1) 69 i0 _ 2 24 Tryz.underlying65 hi hz0 hz1 hz2 rfl (by decide) _ _ _ rfl hrow2 [encStr x, .int .i64 c] rfl rfl (by intro u hu; simp at hu; rcases hu with rfl | rfl <;> rfl) hss (by decide) hs4 ?_; intro v' w5 hown5 hbel5 hsz5 hdr5 hg5; go_frame))
          have hrg5 := hrg2.kept hg5 (row_ne_low hrow2 (by omega)) (row_ne_low hrow2 (by omega))
          go_roundw
          case rel => exact ⟨_, cnt2, ss ++ [(⟨x.toArray⟩, c)], hrg5, by simp; omega, by simpa [encE, encStr] using hown5, by simpa using hMs, hb4.trans (hbel5.mono (by omega))⟩
          case measure => rw [hrg5.left_eq, hrg.left_eq]; exact hlt2
end Go.Proofs.YtjeafniglnnkhaaGreatDoor
