/- Walk: audit.Shares. -/
import Derived.Test.YtjeafniglnnkhaaGreatDoorHC2
import Derived.Test.YtjeafniglnnkhaaGreatDoorHA9
namespace Go.Proofs.YtjeafniglnnkhaaGreatDoor
open Go.RowKit Go.Sort

structure ImgOk (I : Img) : Prop where
  ses : I.ses.length ≤ 30000
  subs : ∀ S ∈ I.ses, S.subs.length ≤ 40
  client : ∀ S ∈ I.ses, S.client.size ≤ 1000000
  asks : ∀ S ∈ I.ses, ∀ a ∈ S.subs, a.1.size ≤ 1000000

theorem boxed2 {w : World} {autos q : Int} {vs vr vg : Value} {I : Img} {B : Nat} {t : ByteArray} {A : Option Addr} {m c : Nat} {rr : Bool} (hI : IsImg w B vs vr vg I) (hB : B ≤ w.heap.size) :
    ∃ w0, w0 = (w.alloc (.cells #[.int .i64 autos, vs, vr, vg] 26)).alloc (.cells #[.string t, .slice A m c, .int .i64 q, .bool rr] 29) ∧ Below w.heap.size w w0 ∧ w0.heap.size = w.heap.size + 2 ∧ IsImg w0 B vs vr vg I ∧
      (∀ (k : Nat) u, (#[.int .i64 autos, vs, vr, vg] : Array Value)[k]? = some u → w0.cell? ⟨w.heap.size, k, none⟩ = some u) ∧ (∀ (k : Nat) u, (#[.string t, .slice A m c, .int .i64 q, .bool rr] : Array Value)[k]? = some u → w0.cell? ⟨w.heap.size + 1, k, none⟩ = some u) :=
  ⟨_, rfl, ((Below.refl _ _).alloc (Nat.le_refl _) _).alloc (by simp) _, by simp, (hI.below ((Below.refl _ _).alloc hB _)).below ((Below.refl _ _).alloc (by simp; omega) _), fun k u hu => alloc_keep (box_cell w _ 26 k hu) _, fun k u hu => by
    have := box_cell (w.alloc (.cells #[.int .i64 autos, vs, vr, vg] 26)) #[.string t, .slice A m c, .int .i64 q, .bool rr] 29 k hu
    rwa [show (w.alloc (.cells #[.int .i64 autos, vs, vr, vg] 26)).heap.size = w.heap.size + 1 by simp] at this⟩

theorem blk_lt {w : World} {g : Nat} {o : Obj} (h : w.heap[g]? = some o) : g < w.heap.size := (Array.getElem?_eq_some_iff.1 h).1
theorem blk_frozen {w : World} {g : Nat} {t : TypeId} {cs : Array Value} (h : w.heap[g]? = some (.cells cs t (0, 0))) (i : Nat) : w.frozen? ⟨g, i, none⟩ = false := by simp [World.frozen?, h]
theorem own_setCell {w : World} {base : Nat} {e : TypeId} {size n : Nat} {v : Value} {xs : List Value} (h : w.ownsRow base e size v n xs) {p : Addr} (hne : some p.block ≠ v.ownBlock) (u : Value) : (w.setCell p u).ownsRow base e size v n xs := by
  obtain ⟨h1, h2⟩ := h
  refine ⟨h1, ?_⟩
  rcases h2 with h2 | ⟨g, cap, cur, rfl, hg, hh, r⟩
  · exact .inl h2
  · exact .inr ⟨g, cap, cur, rfl, hg, by rw [Below.heap_setCell _ _ _ _ (fun e => hne (by rw [e]; rfl))]; exact hh, r⟩

def SharesPost (I : Img) (t : ByteArray) (q : Int) (w : World) (e : Ending) (w' : World) : Prop :=
  ∃ (v : Value) (l : List (ByteArray × ByteArray × Int)), e = .returned v ∧ IsShares I t q l ∧ w'.ownsRow w.heap.size 38 3 v l.length (l.flatMap encS) ∧ Below w.heap.size w w'

theorem info38 : (Tryz.prog.info? 38).map (fun i => (i.zero, i.size, i.bytes)) = some (some (.agg #[.string ByteArray.empty, .string ByteArray.empty, .int .i64 0]), 3, 40) := by kernel_rfl

theorem shared_size {s g i : ByteArray} (h : sharedS s = some (g, i)) : g.size ≤ s.size ∧ i.size ≤ s.size := by
  unfold sharedS at h
  split at h
  · rename_i a g' x rest hL
    split at h
    · injection h with h
      injection h with h1 h2
      subst h1; subst h2
      exact (shared_inner_size hL).symm
    · cases h
  · cases h

theorem own_at {w : World} {base g n cap : Nat} {es : List (ByteArray × Int)} (h : w.ownsRow base 69 2 (.slice (some ⟨g, 0, none⟩) n cap) n (es.flatMap encE)) {j : Nat} (hj : j < es.length) :
    w.cell? ⟨g, j * 2, none⟩ = some (.string es[j].1) ∧ w.cell? ⟨g, j * 2 + 1, none⟩ = some (.int .i64 es[j].2) := by
  have hcs := h.cells (g := g) rfl
  have hadd : ∀ k, (⟨g, 0, none⟩ : Addr).add k = ⟨g, k, none⟩ := fun k => by unfold Addr.add; split <;> simp_all
  have hf := flat_get encE 2 encE_len (by decide) es
  constructor
  · have h1 := hf (j * 2)
    rw [show j * 2 / 2 = j by omega, show j * 2 % 2 = 0 by omega, List.getElem?_eq_getElem hj] at h1
    have := hcs _ _ h1
    rwa [hadd] at this
  · have h1 := hf (j * 2 + 1)
    rw [show (j * 2 + 1) / 2 = j by omega, show (j * 2 + 1) % 2 = 1 by omega, List.getElem?_eq_getElem hj] at h1
    have := hcs _ _ h1
    rwa [hadd] at this

set_option maxRecDepth 100000 in
set_option maxHeartbeats 4000000 in
theorem shares_any (autos : Int) (vs vr vg : Value) (I : Img) (t : ByteArray) (Am : Option Addr) (mm cm : Nat) (q : Int) (rr : Bool) (w : World) (B : Nat) (hI : IsImg w B vs vr vg I) (hB : B ≤ w.heap.size) (hok : ImgOk I) (ht : t.size ≤ 1000000) :
    Calls Tryz.prog 7 #[.agg #[.int .i64 autos, vs, vr, vg], .agg #[.string t, .slice Am mm cm, .int .i64 q, .bool rr]] w (SharesPost I t q w) := by
  obtain ⟨As, cs, Ar, nr, cr, Ag, cg, rfl, rfl, rfl, hcs, hcg, hns1, hng⟩ := hI.vals
  obtain ⟨w0, hw0, hb0, hsz0, hI0, hic, hmc⟩ := boxed2 (autos := autos) (t := t) (A := Am) (m := mm) (c := cm) (q := q) (rr := rr) hI hB
  have HW := Lib.hid hw0
  have HI := Lib.hid hI0
  have HIC := Lib.hid hic
  have HMC := Lib.hid hmc
  have m2 : w0.cell? ⟨w.heap.size + 1, 2, none⟩ = some (.int .i64 q) := hmc 2 _ rfl
  have i1 : w0.cell? ⟨w.heap.size, 1, none⟩ = some (.slice As I.ses.length cs) := hic 1 _ rfl
  have hns := hok.ses
  clear hI hw0 hI0 hic hmc
  go_enter Tryz.func7, Tryz.ntmps7
  go_wp2_with fail
  refine (good_any q _).mono ?_
  rintro e w' ⟨rfl, hw⟩
  rw [hw, ← HW.out]
  clear hw w'
  by_cases hgq : goodB q = true
  · obtain ⟨i0, hi, hz0, hz1, hz2⟩ := info_parts info9
    go_wp2
    go_loopw [6, 27] (fun v i wr => ∃ (k : Nat) (fs : List ByteArray), i = .int .i64 k ∧ k ≤ I.ses.length ∧ fs.length ≤ 40 * k ∧ wr.ownsRow w0.heap.size 9 1 v fs.length (fs.map .string) ∧ Hid (fs = filtersS t (I.ses.take k)) ∧ Below w0.heap.size w0 wr) (fun _ i _ => I.ses.length - (intOf i).toNat)
    case atStart => exact ⟨0, [], rfl, by omega, by simp, World.ownsRow_nil _ _ _ _, rfl, Below.refl _ _⟩
    case round =>
      obtain ⟨k, fs, rfl, hk, hfl, hrow, HF, hbr⟩ := hrel
      by_cases hlt : k < I.ses.length
      · obtain ⟨bb, oo, rfl, hbb, Au, Af, Aq, Ai, cu, cf, cq, ci, nf, nq, ni, last, g0, g1, g2, g3, g4, g5, r1, hul⟩ := HI.out.at_ hlt
        have hbb0 : bb < w0.heap.size := by omega
        have q0 := (hbr.cell (p := ⟨bb, oo + k * 6, none⟩) hbb0).trans g0
        have q1 := (hbr.cell (p := ⟨bb, oo + k * 6 + 1, none⟩) hbb0).trans g1
        have q2 := (hbr.cell (p := ⟨bb, oo + k * 6 + 2, none⟩) hbb0).trans g2
        have q3 := (hbr.cell (p := ⟨bb, oo + k * 6 + 3, none⟩) hbb0).trans g3
        have q4 := (hbr.cell (p := ⟨bb, oo + k * 6 + 4, none⟩) hbb0).trans g4
        have q5 := (hbr.cell (p := ⟨bb, oo + k * 6 + 5, none⟩) hbb0).trans g5
        have R1 := Lib.hid r1
        have s0 := box_cell wr #[.string I.ses[k].client, .slice Au I.ses[k].subs.length cu, .int .i64 last, .slice Af nf cf, .slice Aq nq cq, .slice Ai ni ci] 47 0 (u := .string I.ses[k].client) rfl
        have s1 := box_cell wr #[.string I.ses[k].client, .slice Au I.ses[k].subs.length cu, .int .i64 last, .slice Af nf cf, .slice Aq nq cq, .slice Ai ni ci] 47 1 (u := .slice Au I.ses[k].subs.length cu) rfl
        have hbox : Below wr.heap.size wr (wr.alloc (.cells #[.string I.ses[k].client, .slice Au I.ses[k].subs.length cu, .int .i64 last, .slice Af nf cf, .slice Aq nq cq, .slice Ai ni ci] 47)) := (Below.refl _ _).alloc (Nat.le_refl _) _
        have hrow1 := hrow.alloc (.cells #[.string I.ses[k].client, .slice Au I.ses[k].subs.length cu, .int .i64 last, .slice Af nf cf, .slice Aq nq cq, .slice Ai ni ci] 47)
        have hwr := hbr.size
        clear g0 g1 g2 g3 g4 g5 r1
        go_wp2
        generalize wr.alloc (.cells #[.string I.ses[k].client, .slice Au I.ses[k].subs.length cu, .int .i64 last, .slice Af nf cf, .slice Aq nq cq, .slice Ai ni ci] 47) = w2 at *
        have hS : I.ses[k] ∈ I.ses := List.getElem_mem hlt
        have hc40 := hok.subs _ hS
        have hasz := hok.asks _ hS
        have HST := Lib.hid (filtersS_take t I.ses k hlt)
        generalize hll : I.ses[k].subs = ll at *
        have hb2 : Below w0.heap.size w0 w2 := hbr.trans (hbox.mono hwr)
        have HG0 := Lib.hid (show fs = filtersS t (I.ses.take k) ++ askFilters t (ll.take 0) by rw [HF.out]; simp [askFilters])
        clear hll hbox q0 q1 q2 q3 q4 q5 s0 s1 hrow
        go_loopw [6, 34] (fun v i wi => ∃ (j : Nat) (gs : List ByteArray), i = .int .i64 j ∧ j ≤ ll.length ∧ gs.length ≤ 40 * k + j ∧ wi.ownsRow w0.heap.size 9 1 v gs.length (gs.map .string) ∧ Hid (gs = filtersS t (I.ses.take k) ++ askFilters t (ll.take j)) ∧ Below w0.heap.size w0 wi) (fun _ i _ => ll.length - (intOf i).toNat)
        case atStart => exact ⟨0, fs, rfl, by omega, by omega, hrow1, HG0, hb2⟩
        case round =>
          obtain ⟨wo, rfl⟩ : ∃ wo : World, wo = wr := ⟨_, rfl⟩
          obtain ⟨j, gs, rfl, hj, hgl, hrowE, HG, hbi⟩ := hrel
          clear hrow1
          by_cases hjk : j < ll.length
          · obtain ⟨ba, oa, rfl, hba, a0, a1⟩ := asks_at (R1.out.below (hbi.mono (by omega)) (fun _ _ h => h)) hjk
            have hsz := hasz ll[j] (List.getElem_mem hjk)
            have HAT := Lib.hid (askFilters_take t ll j hjk)
            have hoka := show okAsk t ll[j] = (match sharedS ll[j].1 with | some (_, i) => goodB ll[j].2 && matchS i t | none => false) from rfl
            generalize hff : ll[j].1 = ff at *
            generalize hqq : ll[j].2 = qq at *
            generalize okAsk t ll[j] = ok at *
            clear hff hqq
            have t0 := box_cell wo #[.string ff, .int .i64 qq] 49 0 (u := .string ff) rfl
            have t1 := box_cell wo #[.string ff, .int .i64 qq] 49 1 (u := .int .i64 qq) rfl
            have hbox : Below wo.heap.size wo (wo.alloc (.cells #[.string ff, .int .i64 qq] 49)) := (Below.refl _ _).alloc (Nat.le_refl _) _
            have hrow3 := hrowE.alloc (.cells #[.string ff, .int .i64 qq] 49)
            have hwi := hbi.size
            have hb3 : Below w0.heap.size w0 (wo.alloc (.cells #[.string ff, .int .i64 qq] 49)) := hbi.trans (hbox.mono hwi)
            clear hbox
            cases hsh : sharedS ff with
            | none =>
              have HC := fun W => Lib.hid (show Calls Tryz.prog 8 #[.string ff] W fun e w' => e = .returned (.tuple #[.string ⟨#[]⟩, .string ⟨#[]⟩, .bool false]) ∧ Below W.heap.size W w' by have h := shared_any ff W hsz; rw [hsh] at h; exact h)
              have HN := Lib.hid (show gs = filtersS t (I.ses.take k) ++ askFilters t (ll.take (j + 1)) by
                rw [HAT.out, hoka, hsh, HG.out]; simp)
              clear hoka hsh
              go_wp2_with fail
              refine (HC _).out.mono ?_
              rintro e w4 ⟨rfl, hb4⟩
              have hb4' := hb3.trans (hb4.mono hb3.size)
              have hrow4 := owns_below hrow3 hb4
              go_wp2
              go_roundw
              case rel => exact ⟨j + 1, gs, by go_num, by omega, by omega, hrow4, HN, hb4'⟩
              case measure => simp [intOf]; omega
            | some gi =>
              obtain ⟨gg, ii⟩ := gi
              have hisz := (shared_size hsh).2
              have HC := fun W => Lib.hid (show Calls Tryz.prog 8 #[.string ff] W fun e w' => e = .returned (.tuple #[.string gg, .string ii, .bool true]) ∧ Below W.heap.size W w' by have h := shared_any ff W hsz; rw [hsh] at h; exact h)
              rw [hsh] at hoka
              simp only at hoka
              clear hsh
              go_wp2_with fail
              generalize wo.alloc (.cells #[.string ff, .int .i64 qq] 49) = w3 at *
              refine (HC _).out.mono ?_
              rintro e w4 ⟨rfl, hb4⟩
              have hb4' := hb3.trans (hb4.mono hb3.size)
              have hrow4 := owns_below hrow3 hb4
              have t40 := (hb4.cell (p := ⟨wo.heap.size, 0, none⟩) (World.block_lt_of_cell? _ _ t0)).trans t0
              have t41 := (hb4.cell (p := ⟨wo.heap.size, 1, none⟩) (World.block_lt_of_cell? _ _ t1)).trans t1
              have hm0 : w0.cell? ⟨w.heap.size + 1, 0, none⟩ = some (.string t) := HMC.out 0 _ rfl
              have t42 := (hb4'.cell (p := ⟨w.heap.size + 1, 0, none⟩) (by show w.heap.size + 1 < _; omega)).trans hm0
              clear hm0
              by_cases hgd : goodB qq = true
              · by_cases hmt : matchS ii t = true
                · have HN := Lib.hid (show gs ++ [ff] = filtersS t (I.ses.take k) ++ askFilters t (ll.take (j + 1)) by
                    rw [HAT.out, hoka, hgd, hmt, HG.out]; simp)
                  clear hoka
                  go_wp2_with fail
                  refine (good_any qq _).mono ?_
                  rintro e w' ⟨rfl, hw⟩
                  rw [hw]
                  clear hw w'
                  go_wp2_with fail
                  refine (match_any ii t w4 (by omega) ht).mono ?_
                  rintro e w5 ⟨rfl, hb5⟩
                  have hb5' := hb4'.trans (hb5.mono hb4'.size)
                  have hrow5 := owns_below hrow4 hb5
                  have t50 := (hb5.cell (p := ⟨wo.heap.size, 0, none⟩) (World.block_lt_of_cell? _ _ t40)).trans t40
                  have hgl2 : gs.length ≤ 10000000 := by omega
                  have hsz5 : w0.heap.size ≤ w5.heap.size := hb5'.size
                  go_wp2_with (first | (at_builtin; refine wpList_app rfl _ _ 78 rfl w0.heap.size 9 i0 _ 1 16 Tryz.underlying78 hi hz0 hz1 hz2 rfl (by decide) _ _ _ rfl hrow5 [.string ff] rfl rfl (by intro u hu; simp at hu; subst hu; rfl) hgl2 (by decide) hsz5 ?_; intro v' w6 hown6 hbel6 hsz6 hdr6 hg6; go_frame))
                  go_roundw
                  case rel => exact ⟨j + 1, gs ++ [ff], by go_num, by omega, by simp; omega, by simpa using hown6, HN, hb5'.trans hbel6⟩
                  case measure => simp [intOf]; omega
                · have hmt' : matchS ii t = false := by simpa using hmt
                  have HN := Lib.hid (show gs = filtersS t (I.ses.take k) ++ askFilters t (ll.take (j + 1)) by
                    rw [HAT.out, hoka, hmt', HG.out]; simp)
                  clear hoka hmt
                  go_wp2_with fail
                  refine (good_any qq _).mono ?_
                  rintro e w' ⟨rfl, hw⟩
                  rw [hw]
                  clear hw w'
                  go_wp2_with fail
                  refine (match_any ii t w4 (by omega) ht).mono ?_
                  rintro e w5 ⟨rfl, hb5⟩
                  have hb5' := hb4'.trans (hb5.mono hb4'.size)
                  have hrow5 := owns_below hrow4 hb5
                  go_wp2
                  go_roundw
                  case rel => exact ⟨j + 1, gs, by go_num, by omega, by omega, hrow5, HN, hb5'⟩
                  case measure => simp [intOf]; omega
              · have hgd' : goodB qq = false := by simpa using hgd
                have HN := Lib.hid (show gs = filtersS t (I.ses.take k) ++ askFilters t (ll.take (j + 1)) by
                  rw [HAT.out, hoka, hgd', HG.out]; simp)
                clear hoka hgd
                go_wp2_with fail
                refine (good_any qq _).mono ?_
                rintro e w' ⟨rfl, hw⟩
                rw [hw]
                clear hw w'
                go_wp2
                go_roundw
                case rel => exact ⟨j + 1, gs, by go_num, by omega, by omega, hrow4, HN, hb4'⟩
                case measure => simp [intOf]; omega
          · have HN := Lib.hid (show gs = filtersS t (I.ses.take (k + 1)) by
              have h := HG.out
              rw [show ll.take j = ll from List.take_of_length_le (by omega)] at h
              rw [HST.out, h])
            go_wp2
            go_roundw
            case rel => exact ⟨k + 1, gs, by go_num, by omega, by omega, hrowE, HN, hbi⟩
            case measure => simp [intOf]; omega
      · have hfs : fs = filtersS t I.ses := by
          have h := HF.out
          rwa [List.take_of_length_le (by omega)] at h
        have hfsz : ∀ f ∈ fs, f.size ≤ 1000000 := fun f hf => by
          rw [hfs] at hf
          obtain ⟨S, hS, a, ha, rfl, _⟩ := filtersS_mem hf
          exact hok.asks S hS a ha
        have hwr := hbr.size
        go_wp2_with fail
        refine (sorted_any _ fs wr.heap.size wr (IsStrs.of_owns hrow) hfsz (by omega)).mono ?_
        rintro e w1 ⟨v1, rfl, hown1, hb1⟩
        rw [← (sortedS_perm fs).length_eq] at hown1
        have hb1' := hbr.trans (hb1.mono hwr)
        go_wp2_with fail
        refine (compact_any _ _ wr.heap.size w1 w1 hown1 (Below.refl _ _) (by rw [(sortedS_perm fs).length_eq]; omega)).mono ?_
        rintro e w2 ⟨v2, cf, rfl, hcf, hown2, hb2⟩
        have hcf2 : cf = turnsOf t I.ses := by
          unfold turnsOf
          rw [← hfs, ← hcf, List.map_map]
          exact (List.map_id'' (fun x => bytesOf_data x) cf).symm
        have hb2' := hb1'.trans (hb2.mono (by have := hb1.size; omega))
        obtain ⟨A2, c2, rfl, hc2, hA2⟩ := IsStrs.of_owns hown2
        have HCF := Lib.hid hcf2
        have HA2 := Lib.hid hA2
        have hw2 := hb2'.size
        have hcl : cf.length ≤ 10000000 := by
          have h1 := congrArg List.length hcf
          have h2 := Lib.compact_length_le ((sortedS fs).map (·.data.toList))
          simp [(sortedS_perm fs).length_eq] at h1 h2
          omega
        clear hA2 hown2 hown1 hcf2 hcf hfs hrow
        obtain ⟨i38, hi38, hy0, hy1, hy2⟩ := info_parts info38
        go_wp2
        go_loopw [5, 68] (fun v i wr => ∃ (k : Nat) (l : List (ByteArray × ByteArray × Int)), i = .int .i64 k ∧ k ≤ cf.length ∧ l.length = k ∧ wr.ownsRow w2.heap.size 38 3 v k (l.flatMap encS) ∧ Hid (∀ j (h : j < l.length) (h2 : j < cf.length), ShareOk I q cf[j] l[j]) ∧ Below w2.heap.size w2 wr) (fun _ i _ => cf.length - (intOf i).toNat)
        case atStart => exact ⟨0, [], rfl, by omega, rfl, World.ownsRow_nil _ _ _ _, (fun j h => by simp at h), Below.refl _ _⟩
        case round =>
          obtain ⟨wo, rfl⟩ : ∃ wo : World, wo = wr := ⟨_, rfl⟩
          obtain ⟨k, l, rfl, hk, hll, hrow, HL, hbr2⟩ := hrel
          by_cases hkc : k < cf.length
          · obtain ⟨b2, o2, rfl, hB2, hcell⟩ := HA2.out (by omega)
            have c0 := (hbr2.cell (p := ⟨b2, o2 + k, none⟩) hB2).trans (hcell k hkc)
            have HM := Lib.hid (show cf[k] ∈ turnsOf t I.ses by rw [← HCF.out]; exact List.getElem_mem hkc)
            generalize hfk : cf[k] = f at *
            have HFK := Lib.hid hfk
            clear hfk
            have bf0 := box_cell wo #[.string f] 9 0 (u := .string f) rfl
            have hbox : Below wo.heap.size wo (wo.alloc (.cells #[.string f] 9)) := (Below.refl _ _).alloc (Nat.le_refl _) _
            have hrow3 := hrow.alloc (.cells #[.string f] 9)
            have hwo := hbr2.size
            have hb3 : Below w2.heap.size w2 (wo.alloc (.cells #[.string f] 9)) := hbr2.trans (hbox.mono hwo)
            clear hbox hcell
            have hb3' := hb2'.trans (hb3.mono hw2)
            have hI3 := HI.out.below (hb3'.mono (by omega))
            have hc3 : ∀ (k : Nat) u, (#[.int .i64 autos, .slice As I.ses.length cs, .slice Ar nr cr, .slice Ag I.groups.length cg] : Array Value)[k]? = some u → (wo.alloc (.cells #[.string f] 9)).cell? ⟨w.heap.size, k, none⟩ = some u := fun k u hu => (hb3'.cell (p := ⟨w.heap.size, k, none⟩) (by show w.heap.size < _; omega)).trans (HIC.out k u hu)
            have d0 : (wo.alloc (.cells #[.string f] 9)).cell? ⟨w.heap.size, 0, none⟩ = some (.int .i64 autos) := hc3 0 _ rfl
            have d1 : (wo.alloc (.cells #[.string f] 9)).cell? ⟨w.heap.size, 1, none⟩ = some (.slice As I.ses.length cs) := hc3 1 _ rfl
            have d2 : (wo.alloc (.cells #[.string f] 9)).cell? ⟨w.heap.size, 2, none⟩ = some (.slice Ar nr cr) := hc3 2 _ rfl
            have d3 : (wo.alloc (.cells #[.string f] 9)).cell? ⟨w.heap.size, 3, none⟩ = some (.slice Ag I.groups.length cg) := hc3 3 _ rfl
            have d4 : (wo.alloc (.cells #[.string f] 9)).cell? ⟨w.heap.size + 1, 2, none⟩ = some (.int .i64 q) := (hb3'.cell (p := ⟨w.heap.size + 1, 2, none⟩) (by show w.heap.size + 1 < _; omega)).trans m2
            have HI3 := Lib.hid hI3
            have hw3 : wo.heap.size < (wo.alloc (.cells #[.string f] 9)).heap.size := World.block_lt_of_cell? _ _ bf0
            clear hc3 hI3
            go_wp2_with fail
            generalize wo.alloc (.cells #[.string f] 9) = w3 at *
            refine (gathered_any autos _ _ _ I w3 B HI3.out (by omega) hns hok.subs hok.client 30 #[.pointer (some ⟨wo.heap.size, 0, none⟩)] (enters_of Tryz.func30 (by kernel_rfl) rfl) (onF f) (fun S hS a ha W hW => (isFilter_any a.1 f a.2 wo.heap.size 0 W ((hW.cell (p := ⟨wo.heap.size, 0, none⟩) hw3).trans bf0)).mono fun e w' ⟨he, hL⟩ => ⟨he, hL.1⟩)).mono ?_
            rintro e w4 ⟨v4, es, rfl, hes, hown4, hb4⟩
            have hne := isGathered_ne HM.out hes
            have hlx := List.length_pos_iff.2 hne
            obtain ⟨x0, er, hxe⟩ : ∃ x0 er, es = x0 :: er := List.exists_cons_of_ne_nil hne
            generalize hen : es.length = en at *
            have hOW := Lib.hid hown4
            rcases hown4.2 with ⟨_, h0⟩ | ⟨g4, cap4, cur4, rfl, hbase4, hgg4, hn4, hm4, hs4, ht4⟩
            · omega
            have hes0 := own_at hown4 (j := 0) (by omega)
            obtain ⟨e0, e1⟩ := hes0
            have hx0 : es[0]'(by omega) = x0 := by subst hxe; rfl
            rw [hx0, Nat.zero_mul] at e0 e1
            rw [Nat.zero_add] at e1
            have HEN := Lib.hid hen
            have HXE := Lib.hid hxe
            clear hx0 hxe hen
            have hg4 : g4 < w4.heap.size := World.block_lt_of_cell? _ _ e0
            have hb4' := hb3.trans (hb4.mono hb3.size)
            have z3 := (hb4.cell (p := ⟨w.heap.size, 3, none⟩) (World.block_lt_of_cell? _ _ d3)).trans d3
            have z4 := (hb4.cell (p := ⟨w.heap.size + 1, 2, none⟩) (World.block_lt_of_cell? _ _ d4)).trans d4
            have zf := (hb4.cell (p := ⟨wo.heap.size, 0, none⟩) (World.block_lt_of_cell? _ _ bf0)).trans bf0
            have hrow4 := owns_below hrow3 hb4
            clear d0 d1 d2 d3 d4 bf0 hgg4 ht4 hown4 hs4 hm4
            have x5 := box_cell w4 #[.string x0.1, .int .i64 x0.2] 69 0 (u := .string x0.1) rfl
            have y5 := box_cell w4 #[.string x0.1, .int .i64 x0.2] 69 1 (u := .int .i64 x0.2) rfl
            have hbx5 : (w4.alloc (.cells #[.string x0.1, .int .i64 x0.2] 69)).heap[w4.heap.size]? = some (.cells #[.string x0.1, .int .i64 x0.2] 69 (0, 0)) := heap_alloc_new w4 _
            have hbxl : w4.heap.size < (w4.alloc (.cells #[.string x0.1, .int .i64 x0.2] 69)).heap.size := blk_lt hbx5
            have HBX5 := Lib.hid hbx5
            clear hbx5
            have hb45 : Below w4.heap.size w4 (w4.alloc (.cells #[.string x0.1, .int .i64 x0.2] 69)) := (Below.refl _ _).alloc (Nat.le_refl _) _
            have hrow5 := owns_below hrow4 hb45
            have a3 := (hb45.cell (p := ⟨w.heap.size, 3, none⟩) (World.block_lt_of_cell? _ _ z3)).trans z3
            have a4 := (hb45.cell (p := ⟨w.heap.size + 1, 2, none⟩) (World.block_lt_of_cell? _ _ z4)).trans z4
            have af := (hb45.cell (p := ⟨wo.heap.size, 0, none⟩) (World.block_lt_of_cell? _ _ zf)).trans zf
            have hb5' := hb4'.trans (hb45.mono hb4'.size)
            have HI5 := Lib.hid (HI3.out.below ((hb4.trans (hb45.mono hb4.size)).mono (by omega)))
            have HO5 := Lib.hid (owns_below hOW.out hb45)
            clear hOW z3 z4 zf hrow4
            go_wp2_with fail
            generalize w4.alloc (.cells #[.string x0.1, .int .i64 x0.2] 69) = w5 at *
            have hw5 := hb5'.size
            refine (groupIdx_any _ I.groups f wo.heap.size B w5 HI5.out.groups (by omega) af).mono ?_
            rintro e w6 ⟨hpost, hb6⟩
            have hkl : k ≤ 10000000 := by omega
            have hrow6 := owns_below hrow5 hb6
            have x6 := (hb6.cell (p := ⟨w4.heap.size, 0, none⟩) (World.block_lt_of_cell? _ _ x5)).trans x5
            have y6 := (hb6.cell (p := ⟨w4.heap.size, 1, none⟩) (World.block_lt_of_cell? _ _ y5)).trans y5
            have c3 := (hb6.cell (p := ⟨w.heap.size, 3, none⟩) (World.block_lt_of_cell? _ _ a3)).trans a3
            have c4 := (hb6.cell (p := ⟨w.heap.size + 1, 2, none⟩) (World.block_lt_of_cell? _ _ a4)).trans a4
            have cf6 := (hb6.cell (p := ⟨wo.heap.size, 0, none⟩) (World.block_lt_of_cell? _ _ af)).trans af
            have hb6' := hb5'.trans (hb6.mono hw5)
            have HI6 := Lib.hid (HI5.out.below (hb6.mono (by omega)))
            have HO6 := Lib.hid (owns_below HO5.out hb6)
            have hw6 := hb6'.size
            clear x5 y5 a3 a4 af hrow5 HI5 HO5 HI3 e0 e1
            rcases hpost with ⟨rfl, hfind⟩ | ⟨gk, hgk, rfl, hfind⟩
            · have HPK := Lib.hid (show pickS I.groups f es = x0 by unfold pickS; rw [hfind, HXE.out]; rfl)
              have hb67 : Below w6.heap.size w6 (w6.alloc (.cells #[.int .i64 (-1)] 3)) := (Below.refl _ _).alloc (Nat.le_refl _) _
              have i7 := box_cell w6 #[.int .i64 (-1)] 3 0 (u := .int .i64 (-1)) rfl
              have hrow7 := owns_below hrow6 hb67
              have x7 := (hb67.cell (p := ⟨w4.heap.size, 0, none⟩) (World.block_lt_of_cell? _ _ x6)).trans x6
              have y7 := (hb67.cell (p := ⟨w4.heap.size, 1, none⟩) (World.block_lt_of_cell? _ _ y6)).trans y6
              have e4 := (hb67.cell (p := ⟨w.heap.size + 1, 2, none⟩) (World.block_lt_of_cell? _ _ c4)).trans c4
              have ef := (hb67.cell (p := ⟨wo.heap.size, 0, none⟩) (World.block_lt_of_cell? _ _ cf6)).trans cf6
              have hb7' := hb6'.trans (hb67.mono hw6)
              have hw7 := hb7'.size
              have HS7 := Lib.hid (show (w6.alloc (.cells #[.int .i64 (-1)] 3)).heap.size = w6.heap.size + 1 by simp)
              clear hfind x6 y6 c3 c4 cf6 hrow6
              go_wp2_with (first | (at_builtin; refine wpList_app rfl _ _ 33 rfl w2.heap.size 38 i38 _ 3 40 Tryz.underlying33 hi38 hy0 hy1 hy2 rfl (by decide) _ _ _ rfl hrow7 [.string f, .string x0.1, .int .i64 (min x0.2 q)] rfl (Eq.trans (b := Value.slice (some ⟨w6.heap.size + 1, 0, none⟩) 1 1) rfl (by rw [HS7.out])) (by intro u hu; simp at hu; rcases hu with rfl | rfl | rfl <;> rfl) hkl (by decide) hw7 ?_; intro v' wz hownz hbelz hszz hdrz hgz; go_frame))
              have HL2 := Lib.hid (show ∀ j (h : j < (l ++ [(f, x0.1, min x0.2 q)]).length) (h2 : j < cf.length), ShareOk I q cf[j] (l ++ [(f, x0.1, min x0.2 q)])[j] by
                intro j h h2
                by_cases hj : j < l.length
                · rw [List.getElem_append_left hj]
                  exact HL.out j hj h2
                · have hjk : j = k := by simp at h; omega
                  subst hjk
                  rw [List.getElem_append_right (by omega)]
                  simp only [hll, Nat.sub_self, List.getElem_cons_zero]
                  rw [HFK.out]
                  exact ⟨rfl, es, hes, hne, by rw [HPK.out], by rw [HPK.out]⟩)
              go_roundw
              case rel => exact ⟨k + 1, l ++ [(f, x0.1, min x0.2 q)], by go_num, by omega, by simp [hll], by simpa [encS] using hownz, HL2, hb7'.trans hbelz⟩
              case measure => simp [intOf]; omega
            · obtain ⟨Ag', cg', eg1, _, _, hgA⟩ := HI6.out.groups
              cases eg1
              obtain ⟨bg, og, rfl, hbg, hgc⟩ := hgA (by omega)
              obtain ⟨gcs, ⟨_, rfl⟩, hgcs⟩ := hgc gk hgk
              have g1 := hgcs 1 _ rfl
              clear hgc hgcs hgA
              have hb67 : Below w6.heap.size w6 (w6.alloc (.cells #[.int .i64 gk] 3)) := (Below.refl _ _).alloc (Nat.le_refl _) _
              have i7 := box_cell w6 #[.int .i64 gk] 3 0 (u := .int .i64 gk) rfl
              have hrow7 := owns_below hrow6 hb67
              have HO7 := Lib.hid (owns_below HO6.out hb67)
              have x7 := (hb67.cell (p := ⟨w4.heap.size, 0, none⟩) (World.block_lt_of_cell? _ _ x6)).trans x6
              have y7 := (hb67.cell (p := ⟨w4.heap.size, 1, none⟩) (World.block_lt_of_cell? _ _ y6)).trans y6
              have e3 := (hb67.cell (p := ⟨w.heap.size, 3, none⟩) (World.block_lt_of_cell? _ _ c3)).trans c3
              have e4 := (hb67.cell (p := ⟨w.heap.size + 1, 2, none⟩) (World.block_lt_of_cell? _ _ c4)).trans c4
              have ef := (hb67.cell (p := ⟨wo.heap.size, 0, none⟩) (World.block_lt_of_cell? _ _ cf6)).trans cf6
              have g7 := (hb67.cell (p := ⟨bg, og + gk * 2 + 1, none⟩) (World.block_lt_of_cell? _ _ g1)).trans g1
              have hb7' := hb6'.trans (hb67.mono hw6)
              have hw7 := hb7'.size
              have HBX7 := Lib.hid ((hb67.block w4.heap.size (by have := hb6.size; omega)).trans ((hb6.block w4.heap.size hbxl).trans HBX5.out))
              have hgk0 : decide ((0 : Int) ≤ (gk : Int)) = true := by simp
              clear x6 y6 c3 c4 cf6 hrow6 g1
              go_wp2_with fail
              generalize w6.alloc (.cells #[.int .i64 gk] 3) = w7 at *
              refine (laterIdx_any _ es I.groups[gk].2 _ w.heap.size 0 w6.heap.size 0 bg og _ _ gk en w7 HEN.out HO7.out hne e3 i7 hgk g7).mono ?_
              rintro e w8 ⟨hpost2, hb8⟩
              have hrow8 := owns_below hrow7 hb8
              have HO8 := Lib.hid (owns_below HO7.out hb8)
              have x8 := (hb8.cell (p := ⟨w4.heap.size, 0, none⟩) (World.block_lt_of_cell? _ _ x7)).trans x7
              have y8 := (hb8.cell (p := ⟨w4.heap.size, 1, none⟩) (World.block_lt_of_cell? _ _ y7)).trans y7
              have h4 := (hb8.cell (p := ⟨w.heap.size + 1, 2, none⟩) (World.block_lt_of_cell? _ _ e4)).trans e4
              have hf8 := (hb8.cell (p := ⟨wo.heap.size, 0, none⟩) (World.block_lt_of_cell? _ _ ef)).trans ef
              have hb8' := hb7'.trans (hb8.mono hw7)
              have hw8 := hb8'.size
              clear x7 y7 e3 e4 ef g7 hrow7 i7 HO7 HO6
              rcases hpost2 with ⟨rfl, hf2⟩ | ⟨k2, hk2, rfl, hf2⟩
              · have HPK := Lib.hid (show pickS I.groups f es = x0 by unfold pickS; rw [hfind]; simp only; rw [hf2, HXE.out]; rfl)
                clear hf2 hfind
                go_wp2_with (first | (at_builtin; refine wpList_app rfl _ _ 33 rfl w2.heap.size 38 i38 _ 3 40 Tryz.underlying33 hi38 hy0 hy1 hy2 rfl (by decide) _ _ _ rfl hrow8 [.string f, .string x0.1, .int .i64 (min x0.2 q)] rfl rfl (by intro u hu; simp at hu; rcases hu with rfl | rfl | rfl <;> rfl) hkl (by decide) hw8 ?_; intro v' wz hownz hbelz hszz hdrz hgz; go_frame))
                have HL2 := Lib.hid (show ∀ j (h : j < (l ++ [(f, x0.1, min x0.2 q)]).length) (h2 : j < cf.length), ShareOk I q cf[j] (l ++ [(f, x0.1, min x0.2 q)])[j] by
                  intro j h h2
                  by_cases hj : j < l.length
                  · rw [List.getElem_append_left hj]
                    exact HL.out j hj h2
                  · have hjk : j = k := by simp at h; omega
                    subst hjk
                    rw [List.getElem_append_right (by omega)]
                    simp only [hll, Nat.sub_self, List.getElem_cons_zero]
                    rw [HFK.out]
                    exact ⟨rfl, es, hes, hne, by rw [HPK.out], by rw [HPK.out]⟩)
                go_roundw
                case rel => exact ⟨k + 1, l ++ [(f, x0.1, min x0.2 q)], by go_num, by omega, by simp [hll], by simpa [encS] using hownz, HL2, hb8'.trans hbelz⟩
                case measure => simp [intOf]; omega
              · have HPK := Lib.hid (show pickS I.groups f es = es[k2] by unfold pickS; rw [hfind]; simp only; rw [hf2]; rfl)
                clear hf2 hfind
                obtain ⟨s0, s1⟩ := own_at HO8.out hk2
                have hk2n : k2 < en := by rw [← HEN.out]; exact hk2
                have hk20 : decide ((0 : Int) ≤ (k2 : Int)) = true := by simp
                have HBX8 := (hb8.block w4.heap.size (by have := hb67.size; have := hb6.size; omega)).trans HBX7.out
                have hf80 := blk_frozen HBX8 0
                have hf81 : (w8.setCell ⟨w4.heap.size, 0, none⟩ (.string es[k2].1)).frozen? ⟨w4.heap.size, 1, none⟩ = false := by rw [World.frozen?_setCell]; exact blk_frozen HBX8 1
                have y81 : (w8.setCell ⟨w4.heap.size, 0, none⟩ (.string es[k2].1)).cell? ⟨w4.heap.size, 1, none⟩ = some (.int .i64 x0.2) := by
                  rw [World.cell?_setCell_other (h := by intro h; injection h with _ h; cases h)]; exact y8
                have x9 : ((w8.setCell ⟨w4.heap.size, 0, none⟩ (.string es[k2].1)).setCell ⟨w4.heap.size, 1, none⟩ (.int .i64 es[k2].2)).cell? ⟨w4.heap.size, 0, none⟩ = some (.string es[k2].1) := by
                  rw [World.cell?_setCell_other (h := by intro h; injection h with _ h; cases h)]; exact World.cell?_setCell_same _ _ _ x8
                have y9 : ((w8.setCell ⟨w4.heap.size, 0, none⟩ (.string es[k2].1)).setCell ⟨w4.heap.size, 1, none⟩ (.int .i64 es[k2].2)).cell? ⟨w4.heap.size, 1, none⟩ = some (.int .i64 es[k2].2) := World.cell?_setCell_same _ _ _ y81
                have hfar : ∀ (b o : Nat), b ≠ w4.heap.size → ((w8.setCell ⟨w4.heap.size, 0, none⟩ (.string es[k2].1)).setCell ⟨w4.heap.size, 1, none⟩ (.int .i64 es[k2].2)).cell? ⟨b, o, none⟩ = w8.cell? ⟨b, o, none⟩ := fun b o hb => by
                  rw [World.cell?_setCell_other (h := by intro h; injection h with h; exact hb h.symm), World.cell?_setCell_other (h := by intro h; injection h with h; exact hb h.symm)]
                have h9 := (hfar (w.heap.size + 1) 2 (by have := hb4.size; omega)).trans h4
                have hf9 := (hfar wo.heap.size 0 (by have := hb4.size; omega)).trans hf8
                have hnb : some w4.heap.size ≠ u5.ownBlock := fun e => by have := (hrow.lt _ e.symm).2; have := hb4.size; omega
                have hrow9 := own_setCell (own_setCell hrow8 (p := ⟨w4.heap.size, 0, none⟩) hnb (.string es[k2].1)) (p := ⟨w4.heap.size, 1, none⟩) hnb (.int .i64 es[k2].2)
                have hb9' := (hb8'.setCell (p := ⟨w4.heap.size, 0, none⟩) (by show w2.heap.size ≤ w4.heap.size; exact hb4'.size) (.string es[k2].1)).setCell (p := ⟨w4.heap.size, 1, none⟩) (by show w2.heap.size ≤ w4.heap.size; exact hb4'.size) (.int .i64 es[k2].2)
                have hw9 := hb9'.size
                have HS9 := Lib.hid (show ((w8.setCell ⟨w4.heap.size, 0, none⟩ (.string es[k2].1)).setCell ⟨w4.heap.size, 1, none⟩ (.int .i64 es[k2].2)).heap.size = w8.heap.size by simp [World.setCell])
                clear hfar HBX8
                go_wp2_with (first | (at_builtin; refine wpList_app rfl _ _ 33 rfl w2.heap.size 38 i38 _ 3 40 Tryz.underlying33 hi38 hy0 hy1 hy2 rfl (by decide) _ _ _ rfl hrow9 [.string f, .string es[k2].1, .int .i64 (min es[k2].2 q)] rfl (Eq.trans (b := Value.slice (some ⟨w8.heap.size, 0, none⟩) 1 1) rfl (by rw [HS9.out])) (by intro u hu; simp at hu; rcases hu with rfl | rfl | rfl <;> rfl) hkl (by decide) hw9 ?_; intro v' wz hownz hbelz hszz hdrz hgz; go_frame))
                have HL2 := Lib.hid (show ∀ j (h : j < (l ++ [(f, es[k2].1, min es[k2].2 q)]).length) (h2 : j < cf.length), ShareOk I q cf[j] (l ++ [(f, es[k2].1, min es[k2].2 q)])[j] by
                  intro j h h2
                  by_cases hj : j < l.length
                  · rw [List.getElem_append_left hj]
                    exact HL.out j hj h2
                  · have hjk : j = k := by simp at h; omega
                    subst hjk
                    rw [List.getElem_append_right (by omega)]
                    simp only [hll, Nat.sub_self, List.getElem_cons_zero]
                    rw [HFK.out]
                    exact ⟨rfl, es, hes, hne, by rw [HPK.out], by rw [HPK.out]⟩)
                go_roundw
                case rel => exact ⟨k + 1, l ++ [(f, es[k2].1, min es[k2].2 q)], by go_num, by omega, by simp [hll], by simpa [encS] using hownz, HL2, hb9'.trans hbelz⟩
                case measure => simp [intOf]; omega
          · have HS : IsShares I t q l := by
              refine ⟨fun h => ?_, fun _ => ?_, fun _ i h h2 => ?_⟩
              · rw [hgq] at h; cases h
              · rw [← HCF.out]; omega
              · have hx := HCF.out
                subst hx
                exact HL.out i h h2
            go_wp2
            go_ret
            exact ⟨_, l, rfl, HS, by rw [hll]; exact owns_mono hrow (by omega), hb0.trans ((hb2'.trans (hbr2.mono hw2)).mono (by omega))⟩
  · have hgq' : goodB q = false := by simpa using hgq
    go_wp2
    go_ret
    exact ⟨_, [], rfl, ⟨fun _ => rfl, fun h => absurd h hgq, fun h => absurd h hgq⟩, World.ownsRow_nil _ _ _ _, hb0⟩
end Go.Proofs.YtjeafniglnnkhaaGreatDoor
