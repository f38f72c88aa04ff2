/- Walk: crierlaw21.AuditTurns. -/
import Derived.Test.YtjeafniglnnkhaaGreatDoorHC3
import Derived.Test.YtjeafniglnnkhaaGreatDoorHS7
import Derived.Test.YtjeafniglnnkhaaGreatDoorHW0
import Derived.Test.YtjeafniglnnkhaaGreatDoorHN1
import Derived.Deep.RegionHeld3
import Derived.Deep.CutRange
import Derived.Deep.AppendLies
import Derived.Deep.DrawnRows
namespace Go.Proofs.YtjeafniglnnkhaaGreatDoor
open Go.RowKit Go.Sort Go.BigFrame
attribute [local go_sem ↓] Go.wp_at_zero Go.wp_at_succ

theorem IsImg.mono {w : World} {B B' : Nat} {vs vr vg : Value} {I : Img} (h : IsImg w B vs vr vg I) (hB : B ≤ B') : IsImg w B' vs vr vg I := by
  refine ⟨?_, let ⟨n, hr⟩ := h.ret; ⟨n, hr.mono hB⟩, h.groups.mono hB, h.gsize⟩
  obtain ⟨A, c, e1, e2, e3, e4⟩ := h.ses
  refine ⟨A, c, e1, e2, e3, fun h0 => ?_⟩
  obtain ⟨b, o, hA, hb, hcell⟩ := e4 h0
  refine ⟨b, o, hA, by omega, fun i hi => ?_⟩
  obtain ⟨cs, ⟨h1, ⟨us, uf, uq, last, A2, nf, nq, ni, c2, e, r1, r2, r3, r4⟩, h2, h3⟩, hcs⟩ := hcell i hi
  exact ⟨cs, ⟨h1, ⟨us, uf, uq, last, A2, nf, nq, ni, c2, e, r1.mono hB, r2.mono hB, r3.mono hB, r4⟩, h2, h3⟩, hcs⟩

theorem FewOk.img {I : Img} {t : ByteArray} (h : FewOk I t) : ImgOk I :=
  ⟨h.ses, h.subs, fun S hS => by have := (h.each S hS).1; omega, fun S hS a ha => by have := (h.each S hS).2 a ha; omega⟩

theorem own3_at {w : World} {base g n cap : Nat} {es : List (ByteArray × ByteArray × Int)} (h : w.ownsRow base 38 3 (.slice (some ⟨g, 0, none⟩) n cap) n (es.flatMap encS)) {j : Nat} (hj : j < es.length) :
    w.cell? ⟨g, j * 3, none⟩ = some (.string es[j].1) ∧ w.cell? ⟨g, j * 3 + 1, none⟩ = some (.string es[j].2.1) := by
  have hcs := h.cells (g := g) rfl
  have hadd : ∀ k, (⟨g, 0, none⟩ : Addr).add k = ⟨g, k, none⟩ := fun k => by unfold Addr.add; split <;> simp_all
  have hf := flat_get encS 3 encS_len (by decide) es
  constructor
  · have h1 := hf (j * 3)
    rw [show j * 3 / 3 = j by omega, show j * 3 % 3 = 0 by omega, List.getElem?_eq_getElem hj] at h1
    have := hcs _ _ h1
    rwa [hadd] at this
  · have h1 := hf (j * 3 + 1)
    rw [show (j * 3 + 1) / 3 = j by omega, show (j * 3 + 1) % 3 = 1 by omega, List.getElem?_eq_getElem hj] at h1
    have := hcs _ _ h1
    rwa [hadd] at this

theorem info51 : (Tryz.prog.info? 51).map (fun i => (i.zero, i.size, i.bytes)) = some (some (.agg #[.string ByteArray.empty, .string ByteArray.empty]), 2, 32) := by kernel_rfl

theorem encG_len (a : ByteArray × ByteArray) : (encG a).length = 2 := rfl
theorem flatG_one (l : List (ByteArray × ByteArray)) : ∀ v ∈ l.flatMap encG, v.oneCell' = true := fun v hv => by
  obtain ⟨a, _, h⟩ := List.mem_flatMap.1 hv
  simp [encG] at h
  rcases h with rfl | rfl <;> rfl

theorem groups_news {w : World} {B : Nat} {A : Option Addr} {c : Nat} {l : List (ByteArray × ByteArray)} (h : IsRows w B 2 (.slice A l.length c) l.length (GrpCells l)) (h0 : 0 < l.length) :
    ∃ ad, A = some ad ∧ ∀ j u, (l.flatMap encG)[j]? = some u → w.cell? (ad.add j) = some u := by
  obtain ⟨A', c', e1, _, _, hA⟩ := h
  cases e1
  obtain ⟨b, o, rfl, _, hcell⟩ := hA h0
  refine ⟨_, rfl, fun j u hu => ?_⟩
  rw [flat_get encG 2 encG_len (by decide)] at hu
  have hj : j / 2 < l.length := by
    rcases Nat.lt_or_ge (j / 2) l.length with h | h
    · exact h
    · rw [List.getElem?_eq_none h] at hu; cases hu
  rw [List.getElem?_eq_getElem hj] at hu
  simp only [Option.bind_some] at hu
  obtain ⟨cs, ⟨_, rfl⟩, hcs⟩ := hcell (j / 2) hj
  have := hcs (j % 2) u hu
  have hadd : (⟨b, o, none⟩ : Addr).add j = ⟨b, o + j, none⟩ := by
    unfold Addr.add
    split <;> simp_all
  rw [hadd]
  rwa [show o + j / 2 * 2 + j % 2 = o + j by omega] at this

theorem alloc_keep' {w : World} {a : Addr} {u : Value} (g : w.cell? a = some u) (o : Obj) : ((w.alloc o).drew).cell? a = some u :=
  (World.cell?_of_block (w := w) (w' := w.alloc o) (heap_alloc_old w o (World.block_lt_of_cell? w a g))).trans g

theorem blk_set {w : World} {g : Nat} {t : TypeId} {cs : Array Value} (h : w.heap[g]? = some (.cells cs t (0, 0))) (i : Nat) (u : Value) : (w.setCell ⟨g, i, none⟩ u).heap[g]? = some (.cells (cs.setIfInBounds i u) t (0, 0)) := by
  simp [World.setCell, Array.getElem?_modify, h]

theorem own_set1 {w : World} {base : Nat} {e : TypeId} {g n cap : Nat} {a b : Value} {r : List Value} (h : w.ownsRow base e 2 (.slice (some ⟨g, 0, none⟩) n cap) n (a :: b :: r)) (u : Value) :
    (w.setCell ⟨g, 1, none⟩ u).ownsRow base e 2 (.slice (some ⟨g, 0, none⟩) n cap) n (a :: u :: r) := by
  have hl := h.1
  rcases h.2 with ⟨h1, _⟩ | ⟨g', cap', cur, h1, hb, hg, hn, hm, hs, ht⟩
  · cases h1
  cases h1
  refine ⟨by simpa using hl, .inr ⟨g, cap, cur.setIfInBounds 1 u, rfl, hb, blk_set hg 1 u, hn, hm, by simpa using hs, ?_⟩⟩
  rw [Array.toList_setIfInBounds, List.take_set, ht]
  rfl

theorem gathered_size {I : Img} {f : ByteArray} {es : List (ByteArray × Int)} (hok : ImgOk I) (hg : IsGathered (sesM (onF f) I.ses fun _ => none) es) {x : ByteArray × Int} (hx : x ∈ es) : x.1.size ≤ 1000000 := by
  have h1 := (hg.mem x.1 x.2).1 hx
  have h2 : (sesM (onF f) I.ses (fun _ => none) x.1.data.toList).isSome = true := by rw [h1]; rfl
  rw [sesM_isSome] at h2
  rcases h2 with h2 | ⟨S, hS, hc, _⟩
  · cases h2
  · rw [← bytes_inj hc]
    exact hok.client S hS

theorem turned_img {w : World} {B base : Nat} {vs vr vg : Value} {I : Img} {fl key : ByteArray} {g cap : Nat} {news : List Value} (h : IsImg w B vs vr vg I) (ho : w.ownsRow base 51 2 (.slice (some ⟨g, 0, none⟩) (1 + I.groups.length) cap) (1 + I.groups.length) ([.string fl, .string key] ++ news)) (hn : I.groups.flatMap encG = news)
    (hB : B ≤ w.heap.size) (hf : fl.size ≤ big) (hk : key.size ≤ big) (hl : I.groups.length ≤ 30000) : IsImg w w.heap.size vs vr (.slice (some ⟨g, 0, none⟩) (1 + I.groups.length) cap) ⟨I.ses, (fl, key) :: I.groups⟩ := by
  have h' := h.mono hB
  refine ⟨h'.ses, h'.ret, ?_, fun x hx => ?_⟩
  · show IsRows w w.heap.size 2 _ (I.groups.length + 1) _
    rw [Nat.add_comm I.groups.length 1]
    have hcs := ho.cells (g := g) rfl
    have hfl : [Value.string fl, .string key] ++ news = ((fl, key) :: I.groups).flatMap encG := by rw [List.flatMap_cons, hn]; rfl
    rw [hfl] at hcs
    rcases ho.2 with ⟨h1, _⟩ | ⟨g', cap', cur, h1, hb, hg, hn2, hm, hs, ht⟩
    · cases h1
    cases h1
    refine ⟨_, cap, rfl, hn2, ?_, fun _ => ⟨g, 0, rfl, (Array.getElem?_eq_some_iff.1 hg).1, fun i hi => ?_⟩⟩
    · omega
    · have hi' : i < ((fl, key) :: I.groups).length := by simp; omega
      refine ⟨encG ((fl, key) :: I.groups)[i], ⟨hi', rfl⟩, fun j u hu => ?_⟩
      have hj : j < 2 := by
        have := (List.getElem?_eq_some_iff.1 hu).1
        rwa [encG_len] at this
      have hf := flat_get encG 2 encG_len (by decide) ((fl, key) :: I.groups) (i * 2 + j)
      rw [show (i * 2 + j) / 2 = i by omega, show (i * 2 + j) % 2 = j by omega, List.getElem?_eq_getElem hi'] at hf
      simp only [Option.bind_some] at hf
      rw [hu] at hf
      have := hcs _ u hf
      have hadd : (⟨g, 0, none⟩ : Addr).add (i * 2 + j) = ⟨g, 0 + (i * 2 + j), none⟩ := by unfold Addr.add; split <;> simp_all
      rw [hadd] at this
      rwa [show 0 + i * 2 + j = 0 + (i * 2 + j) by omega]
  · rcases List.mem_cons.1 hx with rfl | hx
    · exact ⟨hf, hk⟩
    · exact h.gsize x hx

theorem made2 (w : World) (base : Nat) (hb : base ≤ w.heap.size) (a b : Value) : ((w.alloc (.cells #[a, b] 51)).drew).ownsRow base 51 2 (.slice (some ⟨w.heap.size, 0, none⟩) 1 1) 1 [a, b] :=
  ⟨rfl, .inr ⟨w.heap.size, 1, #[a, b], rfl, hb, heap_alloc_new w _, Nat.le_refl _, by unfold maxLen; omega, rfl, rfl⟩⟩

def TruePost (w : World) (e : Ending) (w' : World) : Prop := e = .returned (.bool true) ∧ Below w.heap.size w w'

theorem turns_shared {t : ByteArray} {I : Img} {f : ByteArray} (h : f ∈ turnsOf t I.ses) : ∃ g i, sharedS f = some (g, i) ∧ matchS i t = true := by
  obtain ⟨S, hS, a, ha, rfl, hok⟩ := filtersS_mem (turnsOf_mem h)
  unfold okAsk at hok
  split at hok
  · rename_i g i hs
    exact ⟨g, i, hs, (Bool.and_eq_true_iff.1 hok).2⟩
  · cases hok

set_option maxRecDepth 100000 in
set_option maxHeartbeats 4000000 in
theorem auditTurns_any (hknown : ∀ w, Calls Tryz.prog 5 #[] w (TruePost w)) (autos : Int) (vs vr vg : Value) (I : Img) (t : ByteArray) (Am : Option Addr) (mm cm : Nat) (q : Int) (rr : Bool) (w : World) (hI : IsImg w w.heap.size vs vr vg I) (ht : t.size ≤ big) (hm : mm ≤ big) :
    Calls Tryz.prog 3 #[.agg #[.int .i64 autos, vs, vr, vg], .agg #[.string t, .slice Am mm cm, .int .i64 q, .bool rr]] w (TruePost w) := by
  obtain ⟨As, cs, Ar, nr, cr, Ag, cg, rfl, rfl, rfl, hcs, hcg, hns1, hng⟩ := hI.vals
  obtain ⟨w0, hw0, hb0, hsz0, hI0, hic, hmc⟩ := boxed2 (autos := autos) (t := t) (A := Am) (m := mm) (c := cm) (q := q) (rr := rr) hI (Nat.le_refl _)
  have HK := Lib.hid hknown
  have HW := Lib.hid hw0
  have HI := Lib.hid hI0
  have HIC := Lib.hid hic
  have HMC := Lib.hid hmc
  have i0 : w0.cell? ⟨w.heap.size, 0, none⟩ = some (.int .i64 autos) := hic 0 _ rfl
  have i1 : w0.cell? ⟨w.heap.size, 1, none⟩ = some (.slice As I.ses.length cs) := hic 1 _ rfl
  have i2 : w0.cell? ⟨w.heap.size, 2, none⟩ = some (.slice Ar nr cr) := hic 2 _ rfl
  have i3 : w0.cell? ⟨w.heap.size, 3, none⟩ = some (.slice Ag I.groups.length cg) := hic 3 _ rfl
  have m0 : w0.cell? ⟨w.heap.size + 1, 0, none⟩ = some (.string t) := hmc 0 _ rfl
  have m1 : w0.cell? ⟨w.heap.size + 1, 1, none⟩ = some (.slice Am mm cm) := hmc 1 _ rfl
  have m2 : w0.cell? ⟨w.heap.size + 1, 2, none⟩ = some (.int .i64 q) := hmc 2 _ rfl
  have m3 : w0.cell? ⟨w.heap.size + 1, 3, none⟩ = some (.bool rr) := hmc 3 _ rfl
  clear hI hw0 hI0 hic hmc hknown
  go_enter Tryz.func3, Tryz.ntmps3
  go_wp2_with fail
  rw [← HW.out] at *
  refine (few_any autos _ _ _ I t ⟨#[]⟩ Am mm cm q rr w0 (HI.out.mono (by omega)) ht hm (by decide)).mono ?_
  rintro e w1 ⟨⟨r, rfl, hfew⟩, hb1⟩
  cases r with
  | false =>
    go_wp2
    go_ret
    exact ⟨rfl, hb0.trans (hb1.mono (by omega))⟩
  | true =>
    have hok := hfew rfl
    clear hfew
    have hCI : ∀ W, Below w0.heap.size w0 W → W.cell? ⟨w.heap.size, 0, none⟩ = some (.int .i64 autos) ∧ W.cell? ⟨w.heap.size, 1, none⟩ = some (.slice As I.ses.length cs) ∧ W.cell? ⟨w.heap.size, 2, none⟩ = some (.slice Ar nr cr) ∧ W.cell? ⟨w.heap.size, 3, none⟩ = some (.slice Ag I.groups.length cg) := fun W h => by
      have hl : w.heap.size < w0.heap.size := by omega
      exact ⟨(h.cell (p := ⟨w.heap.size, 0, none⟩) hl).trans i0, (h.cell (p := ⟨w.heap.size, 1, none⟩) hl).trans i1, (h.cell (p := ⟨w.heap.size, 2, none⟩) hl).trans i2, (h.cell (p := ⟨w.heap.size, 3, none⟩) hl).trans i3⟩
    have hCM : ∀ W, Below w0.heap.size w0 W → W.cell? ⟨w.heap.size + 1, 0, none⟩ = some (.string t) ∧ W.cell? ⟨w.heap.size + 1, 1, none⟩ = some (.slice Am mm cm) ∧ W.cell? ⟨w.heap.size + 1, 2, none⟩ = some (.int .i64 q) ∧ W.cell? ⟨w.heap.size + 1, 3, none⟩ = some (.bool rr) := fun W h => by
      have hl : w.heap.size + 1 < w0.heap.size := by omega
      exact ⟨(h.cell (p := ⟨w.heap.size + 1, 0, none⟩) hl).trans m0, (h.cell (p := ⟨w.heap.size + 1, 1, none⟩) hl).trans m1, (h.cell (p := ⟨w.heap.size + 1, 2, none⟩) hl).trans m2, (h.cell (p := ⟨w.heap.size + 1, 3, none⟩) hl).trans m3⟩
    have HCI := Lib.hid hCI
    have HCM := Lib.hid hCM
    clear hCI hCM i0 i1 i2 i3 m0 m1 m2 m3 HIC HMC HW
    go_wp2_with fail
    refine (HK.out w1).mono ?_
    rintro e w2 ⟨rfl, hb2⟩
    have hb02 := hb1.trans (hb2.mono hb1.size)
    obtain ⟨i0, i1, i2, i3⟩ := HCI.out w2 hb02
    have hw2 := hb02.size
    go_wp2_with fail
    refine (plain_any autos _ _ _ I w2 w.heap.size (HI.out.below (hb02.mono (by omega))) (by omega)).mono ?_
    rintro e w3 ⟨⟨r, rfl, hplain⟩, hb3⟩
    have hb03 := hb02.trans (hb3.mono hw2)
    clear i0 i1 i2 i3
    cases r with
    | false =>
      go_wp2
      go_ret
      exact ⟨rfl, hb0.trans (hb03.mono (by omega))⟩
    | true =>
      have hpl := hplain rfl
      have HIO := Lib.hid hok.img
      have htz := hok.topic
      have hns := hok.ses
      have HG := Lib.hid hok.gsize
      have hgl := hok.groups
      have HPL := Lib.hid hpl
      have HOK := Lib.hid hok
      clear hplain hpl hok
      obtain ⟨i0, i1, i2, i3⟩ := HCI.out w3 hb03
      obtain ⟨m0, m1, m2, m3⟩ := HCM.out w3 hb03
      have hw3 := hb03.size
      go_wp2_with fail
      refine (shares_any autos _ _ _ I t Am mm cm q rr w3 w.heap.size (HI.out.below (hb03.mono (by omega))) (by omega) HIO.out (by omega)).mono ?_
      rintro e w4 ⟨v4, l, rfl, hsh, hown4, hb4⟩
      have hb04 := hb03.trans (hb4.mono hw3)
      have hw4 := hb04.size
      clear i0 i1 i2 i3 m0 m1 m2 m3
      obtain ⟨A4, c4, rfl⟩ : ∃ A c, v4 = .slice A l.length c := by
        rcases hown4.2 with ⟨h1, h2⟩ | ⟨g', cap, cur, h1, _⟩
        · exact ⟨none, 0, by rw [h1, h2]⟩
        · exact ⟨_, _, h1⟩
      have HSH := Lib.hid hsh
      have HO4 := Lib.hid hown4
      clear hown4 hsh
      go_wp2
      go_loopw [6] (fun i wr => ∃ k : Nat, i = .int .i64 k ∧ k ≤ l.length ∧ Below w4.heap.size w4 wr) (fun i _ => l.length - (intOf i).toNat)
      case atStart => exact ⟨0, rfl, by omega, Below.refl _ _⟩
      case round =>
        obtain ⟨i, rfl, hi, hbr⟩ := hrel
        by_cases hil : i < l.length
        · rcases HO4.out.2 with ⟨h1, h2⟩ | ⟨g4, cap4, cur4, h1, hbase4, hgg4, hn4, hm4, hs4, ht4⟩
          · omega
          cases h1
          obtain ⟨a0, a1⟩ := own3_at HO4.out hil
          have hg4 : g4 < w4.heap.size := World.block_lt_of_cell? _ _ a0
          have hgd : goodB q = true := by
            cases h : goodB q
            · rw [HSH.out.bad h] at hil; simp at hil
            · rfl
          have hlt : i < (turnsOf t I.ses).length := by rw [← HSH.out.len hgd]; exact hil
          have hsk := HSH.out.at_ hgd i hil hlt
          have HFM := Lib.hid (show l[i].1 ∈ turnsOf t I.ses by rw [hsk.filter]; exact List.getElem_mem hlt)
          obtain ⟨gg, inner, hs, hmt⟩ := turns_shared HFM.out
          obtain ⟨S0, hS0, ask0, hask0, hfa0, _⟩ := filtersS_mem (turnsOf_mem HFM.out)
          have hfsz : l[i].1.size ≤ 1000000 := by rw [← hfa0]; exact HIO.out.asks S0 hS0 ask0 hask0
          have hisz := (shared_size hs).2
          have HSK := Lib.hid hsk
          clear hS0 hask0 hfa0 hsk hgg4 ht4
          have e0 := (hbr.cell (p := ⟨g4, i * 3, none⟩) hg4).trans a0
          have e1 := (hbr.cell (p := ⟨g4, i * 3 + 1, none⟩) hg4).trans a1
          have HA01 := Lib.hid (And.intro a0 a1)
          generalize hfl : l[i].1 = fl at *
          generalize hkl : l[i].2.1 = kl at *
          have HFK := Lib.hid (And.intro hfl hkl)
          have HC8 := fun W => Lib.hid (show Calls Tryz.prog 8 #[.string fl] W fun e w' => e = .returned (.tuple #[.string gg, .string inner, .bool true]) ∧ Below W.heap.size W w' by have h := shared_any fl W hfsz; rw [hs] at h; exact h)
          have HC9 := fun W => Lib.hid (show Calls Tryz.prog 9 #[.string inner, .string t] W fun e w' => e = .returned (.bool true) ∧ Below W.heap.size W w' by have h := match_any inner t W (by omega) (by omega); rw [hmt] at h; exact h)
          have hwr := hbr.size
          clear a0 a1 hfl hkl hs hmt
          go_wp2_with fail
          refine (HC8 _).out.mono ?_
          rintro e w5 ⟨rfl, hb5⟩
          have hb5' := hbr.trans (hb5.mono hwr)
          have f0 := (hb5.cell (p := ⟨g4, i * 3, none⟩) (World.block_lt_of_cell? _ _ e0)).trans e0
          have hb05 := hb04.trans (hb5'.mono hw4)
          have m0 := (HCM.out w5 hb05).1
          clear e0 e1
          have hw5 := hb5'.size
          have hw05 := hb05.size
          have n0 := fun x : Near w5.heap.size w5 => Near.cell (World.block_lt_of_cell? _ _ m0) m0 x
          have hlb : l.length ≤ 9223372036854775807 := by unfold maxLen at hm4; omega
          go_upto_region 12 with fail
          go_cut [74] from 47 to 74 (fun v wc => v = .bool false ∧ Below w5.heap.size w5 wc)
          case first =>
            /-<-/
            by_cases hz : i = 0
            · have hgt : decide ((0 : Int) < (i : Int)) = false := by simp; omega
              refine wp_region_near w5.heap.size (by kernel_rfl) (by kernel_rfl) ?_
              repeat (go_big_quiet_step (first | (go_at_call 9; exact Near.call (Nat.le_refl _) (HC9 _).out)))
              refine wpQuiet_nil ?_
              rintro _ ⟨⟨w6, hb6⟩, rfl⟩
              go_wp2_with fail
              go_meet
              exact ⟨rfl, hb6⟩
            · obtain ⟨p, rfl⟩ : ∃ p, i = p + 1 := ⟨i - 1, by omega⟩
              have hpl : p < l.length := by omega
              obtain ⟨y0, _⟩ := own3_at HO4.out hpl
              have f1 := (hb5'.cell (p := ⟨g4, p * 3, none⟩) hg4).trans y0
              have hskp := HSH.out.at_ hgd p hpl (by omega)
              have hcmp : compareS l[p].1 fl = -1 := by
                rw [← HFK.out.1, hskp.filter, HSK.out.filter]
                exact List.pairwise_iff_getElem.1 (turnsOf_order t I.ses) p (p + 1) (by omega) hlt (by omega)
              obtain ⟨S1, hS1, ask1, hask1, hfa1, _⟩ := filtersS_mem (turnsOf_mem (show l[p].1 ∈ turnsOf t I.ses by have h := List.getElem_mem (l := turnsOf t I.ses) (n := p) (by omega); rwa [← hskp.filter] at h))
              have hpsz : l[p].1.size ≤ 1000000 := by rw [← hfa1]; exact HIO.out.asks S1 hS1 ask1 hask1
              generalize l[p].1 = fp at *
              have HC10 := fun W => Lib.hid (show Calls Tryz.prog 10 #[.string fp, .string fl] W fun e w' => e = .returned (.int .i64 (-1)) ∧ Below W.heap.size W w' by have h := compare_any fp fl W hpsz hfsz; rw [hcmp] at h; exact h)
              have n1 := fun x : Near w5.heap.size w5 => Near.cell (World.block_lt_of_cell? _ _ f0) f0 x
              have n2 := fun x : Near w5.heap.size w5 => Near.cell (World.block_lt_of_cell? _ _ f1) f1 x
              have hgt : decide ((0 : Int) < ((p : Int) + 1)) = true := decide_eq_true (by omega)
              clear hskp hcmp hS1 hask1 hfa1 y0 hz
              refine wp_region_near w5.heap.size (by kernel_rfl) (by kernel_rfl) ?_
              repeat (go_big_quiet_step (first | (go_at_call 9; exact Near.call (Nat.le_refl _) (HC9 _).out) | (go_at_call 10; exact Near.call (Nat.le_refl _) (HC10 _).out)))
              refine wpQuiet_nil ?_
              rintro _ ⟨⟨w6, hb6⟩, rfl⟩
              go_wp2_with fail
              go_meet
              exact ⟨rfl, hb6⟩
            /->-/
          case rest =>
            obtain ⟨rfl, hb6⟩ := hcut
            have hb6' := hb5'.trans (hb6.mono hw5)
            have hw6 := hb6'.size
            clear m0 f0 n0 HC8 HC9
            go_wp2
            go_loopw [10, 11] (fun c v wr => ∃ k : Nat, v = .int .i64 k ∧ k ≤ I.ses.length ∧ c = .int .i64 (((I.ses.take k).filter (hasF fl)).length : Nat) ∧ Below w4.heap.size w4 wr) (fun _ v _ => I.ses.length - (intOf v).toNat)
            case atStart => exact ⟨0, rfl, by omega, rfl, hb6'⟩
            case round =>
              obtain ⟨wq, rfl⟩ : ∃ wq : World, wq = wr := ⟨_, rfl⟩
              obtain ⟨k, rfl, hk, rfl, hbk⟩ := hrel
              have hb0k := hb04.trans (hbk.mono hw4)
              obtain ⟨_, i1, _, _⟩ := HCI.out wq hb0k
              by_cases hkl : k < I.ses.length
              · obtain ⟨bb, oo, rfl, hbb, Au, Af, Aq, Ai, cu, cf, cq, ci, nf, nq, ni, last, g0, g1, g2, g3, g4', g5, r1, hul⟩ := (HI.out.below (hb0k.mono (by omega))).at_ hkl
                have HTK := Lib.hid (show (I.ses.take (k + 1)).filter (hasF fl) = (I.ses.take k).filter (hasF fl) ++ if hasF fl I.ses[k] then [I.ses[k]] else [] by
                  rw [List.take_succ_eq_append_getElem hkl, List.filter_append]
                  by_cases h : hasF fl I.ses[k] = true <;> simp [h])
                have hhas := show hasF fl I.ses[k] = I.ses[k].subs.any (onF fl) from rfl
                generalize hcnt : ((I.ses.take k).filter (hasF fl)).length = cnt at *
                have hc40 := HIO.out.subs _ (List.getElem_mem hkl)
                generalize hll : I.ses[k].subs = ll at *
                have R1 := Lib.hid r1
                have HHAS := Lib.hid hhas
                have HCNT := Lib.hid hcnt
                clear hhas hcnt hll g0 g2 g3 g4' g5 r1
                have f0 := (hbk.cell (p := ⟨g4, i * 3, none⟩) hg4).trans HA01.out.1
                have hi0 : (0 : Int) ≤ (i : Int) := by omega
                have hi1 : (i : Int) < (l.length : Int) := by omega
                have hcl : cnt ≤ 30000 := by
                  rw [← HCNT.out]
                  exact Nat.le_trans (List.length_filter_le _ _) (by rw [List.length_take]; omega)
                /-<-/
                go_wp2_with fail
                go_loopw [10, 12] (fun c v wi => ∃ n qd : Nat, v = .int .i64 n ∧ n ≤ ll.length ∧ c = .int .i64 cnt ∧ wi = wq.drewN qd ∧ Hid (∀ j (h : j < ll.length), j < n → onF fl ll[j] = false)) (fun _ v _ => ll.length - (intOf v).toNat)
                case atStart => exact ⟨0, 0, rfl, by omega, rfl, rfl, fun j h h2 => by omega⟩
                case round =>
                  obtain ⟨n, qd, rfl, hn, rfl, rfl, HN⟩ := hrel
                  by_cases hnl : n < ll.length
                  · obtain ⟨ba, oa, rfl, hba, a0, a1⟩ := asks_at R1.out hnl
                    have hon := show onF fl ll[n] = (ll[n].1.toList == fl.toList) from rfl
                    generalize ll[n].1 = ff at *
                    by_cases heq : ff.toList == fl.toList
                    · rw [heq] at hon
                      have HC := Lib.hid (show ((I.ses.take (k + 1)).filter (hasF fl)).length = cnt + 1 by
                        rw [HTK.out, HHAS.out, List.any_eq_true.2 ⟨ll[n], List.getElem_mem hnl, hon⟩, List.length_append, HCNT.out]; rfl)
                      clear hon a1
                      go_wp2
                      go_quiet (fail)
                      go_wp2
                      go_roundw
                      case rel => exact ⟨k + 1, by go_num, by omega, by rw [HC.out]; go_num, below_drewN hbk _⟩
                      case measure => simp [intOf]; omega
                    · have heq' : (ff.toList == fl.toList) = false := by simpa using heq
                      rw [heq'] at hon
                      have HN2 := Lib.hid (show ∀ j (h : j < ll.length), j < n + 1 → onF fl ll[j] = false from fun j h h2 => by
                        rcases Nat.lt_or_ge j n with h3 | h3
                        · exact HN.out j h h3
                        · obtain rfl : j = n := by omega
                          exact hon)
                      clear hon a1 heq
                      go_wp2
                      go_quiet (fail)
                      go_wp2
                      go_roundw
                      case rel => exact ⟨n + 1, _, by go_num, by omega, rfl, rfl, HN2⟩
                      case measure => simp [intOf]; omega
                  · have HC := Lib.hid (show ((I.ses.take (k + 1)).filter (hasF fl)).length = cnt by
                      have hany : ll.any (onF fl) = false := by
                        rw [List.any_eq_false]
                        intro a ha
                        obtain ⟨j, hj, rfl⟩ := List.getElem_of_mem ha
                        rw [HN.out j hj (by omega)]
                        simp
                      rw [HTK.out, HHAS.out, hany, List.length_append, HCNT.out]; rfl)
                    go_wp2
                    go_roundw
                    case rel => exact ⟨k + 1, by go_num, by omega, by rw [HC.out], below_drewN hbk _⟩
                    case measure => simp [intOf]; omega
                /->-/
              · have hmem : ((I.ses.take k).filter (hasF fl)).length = (I.ses.filter (hasF fl)).length := by rw [List.take_of_length_le (by omega)]
                rw [hmem]
                have hft : (turnsOf t I.ses)[i] = fl := by rw [← HSK.out.filter, HFK.out.1]
                obtain ⟨es, hes, hne, hkey, _⟩ := HSK.out.rest
                rw [hft] at hes hkey
                rw [HFK.out.2] at hkey
                have hkm : kl ∈ es.map (·.1) := by rw [hkey]; exact List.mem_map.2 ⟨_, pick_mem hne, rfl⟩
                rw [← gathered_count hes HPL.out]
                have HES := Lib.hid hes
                have HKM := Lib.hid hkm
                have hel : es.length ≤ 30000 := by
                  rw [gathered_count hes HPL.out]
                  exact Nat.le_trans (List.length_filter_le _ _) (by omega)
                have hepos := List.length_pos_iff.2 hne
                generalize hen : es.length = en at *
                have HEN := Lib.hid hen
                clear hen hkey hkm hes hne hmem
                obtain ⟨i0, _, i2, i3⟩ := HCI.out wq hb0k
                have bt0 : (wq.alloc (.cells #[.int .i64 autos, .slice As I.ses.length cs, .slice Ar nr cr, .slice Ag I.groups.length cg] 26)).heap[wq.heap.size]? = some (.cells #[.int .i64 autos, .slice As I.ses.length cs, .slice Ar nr cr, .slice Ag I.groups.length cg] 26 (0, 0)) := heap_alloc_new wq _
                have hbt : Below wq.heap.size wq (wq.alloc (.cells #[.int .i64 autos, .slice As I.ses.length cs, .slice Ar nr cr, .slice Ag I.groups.length cg] 26)) := (Below.refl _ _).alloc (Nat.le_refl _) _
                go_wp2_with fail
                go_loopw [14, 15] (fun m v wk => ∃ (k : Nat) (vgk : Value) (sm : ByteArray), v = .int .i64 k ∧ k ≤ en ∧ m = .string sm ∧ Hid (0 < k → sm = metS es kl k) ∧ wk.heap[wq.heap.size]? = some (.cells #[.int .i64 autos, .slice As I.ses.length cs, .slice Ar nr cr, vgk] 26 (0, 0)) ∧ Below wq.heap.size wq wk) (fun _ v _ => en - (intOf v).toNat)
                case atStart => exact ⟨0, _, _, rfl, by omega, rfl, (fun h => by omega), bt0, hbt⟩
                case round =>
                  obtain ⟨wk, rfl⟩ : ∃ wk : World, wk = wr := ⟨_, rfl⟩
                  obtain ⟨k2, vgk, sm, rfl, hk2, rfl, HSM, hbk2, hbq⟩ := hrel
                  clear i0 i1 i2 i3 bt0 hbt
                  have hwq := hbq.size
                  have hb4k := hbk.trans (hbq.mono hbk.size)
                  have hb0k2 := hb04.trans (hb4k.mono hw4)
                  obtain ⟨i0, i1, i2, i3⟩ := HCI.out wk hb0k2
                  by_cases hke : k2 < en
                  · have f0 := (hb4k.cell (p := ⟨g4, i * 3, none⟩) hg4).trans HA01.out.1
                    have f1 := (hb4k.cell (p := ⟨g4, i * 3 + 1, none⟩) hg4).trans HA01.out.2
                    have hi0 : (0 : Int) ≤ (i : Int) := by omega
                    have hi1 : (i : Int) < (l.length : Int) := by omega
                    have hgn := fun h0 => groups_news ((HI.out.below (hb0k2.mono (by omega))).groups) h0
                    have hgln := flat_length encG 2 encG_len I.groups
                    have hg1 := flatG_one I.groups
                    generalize hnw : I.groups.flatMap encG = news at *
                    have HNW := Lib.hid hnw
                    clear hnw
                    obtain ⟨i51, hi51, hy0, hy1, hy2⟩ := info_parts info51
                    have hmk := made2 wk wk.heap.size (Nat.le_refl _) (.string fl) (.string kl)
                    have hng1 : 1 + I.groups.length ≤ maxLen := by unfold maxLen; omega
                    have hng2 : (1 + I.groups.length) * 32 ≤ 140737488355328 := by omega
                    have hbs : wk.heap.size ≤ ((wk.alloc (.cells #[.string fl, .string kl] 51)).drew).heap.size := by show wk.heap.size ≤ (wk.alloc _).heap.size; simp
                    have hnews : 0 < I.groups.length → ∃ ad, Ag = some ad ∧ ∀ j u, news[j]? = some u → ((wk.alloc (.cells #[.string fl, .string kl] 51)).drew).cell? (ad.add j) = some u := fun h0 => by
                      obtain ⟨ad, h1, h2⟩ := hgn h0
                      exact ⟨ad, h1, fun j u hu => alloc_keep' (h2 j u hu) _⟩
                    have hbtk := blk_lt hbk2
                    have hk4 : g4 < wk.heap.size := by have := hb4k.size; omega
                    have hkw : w.heap.size < wk.heap.size := by have := hb0k2.size; omega
                    have far : ∀ (w8 : World) (b o : Nat) (u : Value), ((wk.alloc (.cells #[.string fl, .string kl] 51)).drew).grownBy w8 (some wk.heap.size) → b < wk.heap.size → wk.cell? ⟨b, o, none⟩ = some u → w8.cell? ⟨b, o, none⟩ = some u := fun w8 b o u hg hb hu =>
                      (hg.cell_far ⟨b, o, none⟩ (Nat.lt_of_lt_of_le hb hbs) (fun e => by injection e with e; simp at e; omega)).trans (alloc_keep' hu _)
                    have ff0 := fun w8 hg => far w8 g4 (i * 3) _ hg hk4 f0
                    have ff1 := fun w8 hg => far w8 g4 (i * 3 + 1) _ hg hk4 f1
                    have ff3 := fun w8 hg => far w8 w.heap.size 3 _ hg hkw i3
                    have hbblk : ∀ (w8 : World), ((wk.alloc (.cells #[.string fl, .string kl] 51)).drew).grownBy w8 (some wk.heap.size) → w8.heap[wq.heap.size]? = some (.cells #[.int .i64 autos, .slice As I.ses.length cs, .slice Ar nr cr, vgk] 26 (0, 0)) := fun w8 hg =>
                      (hg.block wq.heap.size (Nat.lt_of_lt_of_le hbtk hbs) (fun e => by injection e with e; omega)).trans ((heap_alloc_old wk _ hbtk).trans hbk2)
                    have hnb4 : wq.heap.size ≠ g4 := by have := hbk.size; omega
                    have hnbw : wq.heap.size ≠ w.heap.size := by have := hb0k.size; omega
                    have sc0 : ∀ (W : World) (u : Value) (o : Nat), (W.setCell ⟨wq.heap.size, 3, none⟩ u).cell? ⟨g4, o, none⟩ = W.cell? ⟨g4, o, none⟩ := fun W u o => World.cell?_setCell_other _ _ _ _ (fun h => hnb4 (by injection h))
                    have sc3 : ∀ (W : World) (u : Value) (o : Nat), (W.setCell ⟨wq.heap.size, 3, none⟩ u).cell? ⟨w.heap.size, o, none⟩ = W.cell? ⟨w.heap.size, o, none⟩ := fun W u o => World.cell?_setCell_other _ _ _ _ (fun h => hnbw (by injection h))
                    go_upto_region 28 with fail
                    go_cut [] from 117 to 132 (fun wc => ∃ gg cap, wc.ownsRow wk.heap.size 51 2 (.slice (some ⟨gg, 0, none⟩) (1 + I.groups.length) cap) (1 + I.groups.length) ([.string fl, .string kl] ++ news) ∧ wc.heap[wq.heap.size]? = some (.cells #[.int .i64 autos, .slice As I.ses.length cs, .slice Ar nr cr, .slice (some ⟨gg, 0, none⟩) (1 + I.groups.length) cap] 26 (0, 0)) ∧ Below wq.heap.size wq wc)
                    case first =>
                      /-<-/
                      go_region_held3 (fun w' => w'.cell? ⟨g4, i * 3, none⟩ = some (.string fl) ∧ w'.cell? ⟨g4, i * 3 + 1, none⟩ = some (.string kl) ∧ w'.cell? ⟨w.heap.size, 3, none⟩ = some (.slice Ag I.groups.length cg)) (first | go_keep | (refine ⟨?_, ?_, ?_⟩ <;> first | exact ff0 w8 hgrow8 | exact ff1 w8 hgrow8 | exact ff3 w8 hgrow8))
                        ((refine step_append_any _ (by rfl) _ _ _ (by rfl) wk.heap.size 51 i51 _ 2 32 Tryz.underlying24 hi51 hy0 hy1 hy2 rfl (by omega) wk.heap.size 1 1 [.string fl, .string kl] (by rfl) hmk Ag I.groups.length cg news (by rfl) hgln hnews hg1 hng1 hng2 hbs ?_; intro gg cap w8 hown8 hgrow8 hgg; have hfz8 := blk_frozen (hbblk w8 hgrow8) 3; have hcz8 : w8.cell? ⟨wq.heap.size, 3, none⟩ = some vgk := (cell_of_row w8 wq.heap.size 3 _ 26 (0, 0) (hbblk w8 hgrow8)).trans rfl))
                      go_wp2_with fail
                      go_meet
                      refine ⟨gg, cap, own_setCell hown8 (p := ⟨wq.heap.size, 3, none⟩) (fun e => ?_) _, ?_, ?_⟩
                      · have := (hown8.lt wq.heap.size e.symm).1
                        omega
                      · exact blk_set (hbblk w8 hgrow8) 3 _
                      · exact (((hbq.alloc hwq _).drew).grown hgrow8 (by have := hbs; omega) (fun j hj => by cases hj; exact hwq)).setCell (Nat.le_refl _) _
                      /->-/
                    case rest =>
                      obtain ⟨gg, cap, hown8, hb8, hbq8⟩ := hcut
                      have hbq8s := hbq8.size
                      clear f0 f1 hmk hng1 hng2 hbs hnews far ff0 ff1 ff3 hbblk sc0 sc3 hgn hbk2 hi0 hi1 i0 i1 i2 i3
                      go_upto_if 134 with (fail)
                      go_cut [] from 135 to 139 (fun wc => ∃ gg cap, wc.ownsRow wk.heap.size 51 2 (.slice (some ⟨gg, 0, none⟩) (1 + I.groups.length) cap) (1 + I.groups.length) ([.string fl, .string (metS es kl k2)] ++ news) ∧ wc.heap[wq.heap.size]? = some (.cells #[.int .i64 autos, .slice As I.ses.length cs, .slice Ar nr cr, .slice (some ⟨gg, 0, none⟩) (1 + I.groups.length) cap] 26 (0, 0)) ∧ Below wq.heap.size wq wc)
                      case first =>
                        /-<-/
                        by_cases hz : k2 = 0
                        · subst hz
                          go_wp2
                          go_meet
                          exact ⟨gg, cap, hown8, hb8, hbq8⟩
                        · have hsm := HSM.out (by omega)
                          have hgt : decide ((0 : Int) < (k2 : Int)) = true := decide_eq_true (by omega)
                          have c3 : wc.cell? ⟨wq.heap.size, 3, none⟩ = some (.slice (some ⟨gg, 0, none⟩) (1 + I.groups.length) cap) := (cell_of_row wc wq.heap.size 3 _ 26 (0, 0) hb8).trans rfl
                          rcases hown8.2 with ⟨h1, _⟩ | ⟨g', cap', cur, h1, hbase8, hgg8, hn8, hm8, hs8, ht8⟩
                          · cases h1
                          cases h1
                          have d1 : wc.cell? ⟨gg, 1, none⟩ = some (.string kl) := by
                            have h := hown8.cells (g := gg) rfl 1 (.string kl) rfl
                            have hadd : (⟨gg, 0, none⟩ : Addr).add 1 = ⟨gg, 1, none⟩ := by unfold Addr.add; split <;> simp_all
                            rwa [hadd] at h
                          have z1 := blk_frozen hgg8 1
                          have hpos : (0 : Int) < (1 : Int) + (I.groups.length : Int) := by omega
                          have HSMh := Lib.hid hsm
                          clear hsm ht8 hs8 hgg8
                          go_wp2
                          go_meet
                          refine ⟨gg, cap, ?_, ?_, hbq8.setCell (p := ⟨gg, 1, none⟩) (by show wq.heap.size ≤ gg; omega) _⟩
                          · rw [← HSMh.out]
                            exact own_set1 hown8 _
                          · exact (Below.heap_setCell _ _ _ _ (by show wq.heap.size ≠ gg; omega)).trans hb8
                        /->-/
                      case rest =>
                        obtain ⟨gg', cap', hown9, hb9, hbq9⟩ := hcut
                        clear hown8 hb8 hbq8
                        have hb4c := hbk.trans (hbq9.mono hbk.size)
                        have hb0c := hb04.trans (hb4c.mono hw4)
                        obtain ⟨m0, m1, m2, m3⟩ := HCM.out wc hb0c
                        have hwc := hb0c.size
                        have b0 : wc.cell? ⟨wq.heap.size, 0, none⟩ = some (.int .i64 autos) := (cell_of_row wc wq.heap.size 0 _ 26 (0, 0) hb9).trans rfl
                        have b1 : wc.cell? ⟨wq.heap.size, 1, none⟩ = some (.slice As I.ses.length cs) := (cell_of_row wc wq.heap.size 1 _ 26 (0, 0) hb9).trans rfl
                        have b2 : wc.cell? ⟨wq.heap.size, 2, none⟩ = some (.slice Ar nr cr) := (cell_of_row wc wq.heap.size 2 _ 26 (0, 0) hb9).trans rfl
                        have b3 : wc.cell? ⟨wq.heap.size, 3, none⟩ = some (.slice (some ⟨gg', 0, none⟩) (1 + I.groups.length) cap') := (cell_of_row wc wq.heap.size 3 _ 26 (0, 0) hb9).trans rfl
                        have hks : (metS es kl k2).size ≤ 1000000 := by
                          obtain ⟨x, hx, hxe⟩ := List.mem_map.1 (met_mem HES.out.order HKM.out k2)
                          rw [← hxe]
                          exact gathered_size HIO.out HES.out hx
                        have hIt := turned_img (fl := fl) (key := metS es kl k2) (HI.out.below (hb0c.mono (by omega))) hown9 HNW.out (by omega) (by unfold big; omega) (by unfold big; omega) hgl
                        have HIT := Lib.hid hIt
                        have HO9 := Lib.hid hown9
                        clear hIt hown9
                        go_wp2_with fail
                        refine (shares_any autos _ _ _ ⟨I.ses, (fl, metS es kl k2) :: I.groups⟩ t Am mm cm q rr wc wc.heap.size HIT.out (Nat.le_refl _) ⟨HIO.out.ses, HIO.out.subs, HIO.out.client, HIO.out.asks⟩ (by omega)).mono ?_
                        rintro e w10 ⟨v10, lt, rfl, hsh2, hown10, hb10⟩
                        clear m0 m1 m2 m3 b0 b1 b2 b3
                        obtain ⟨A10, c10, rfl⟩ : ∃ A c, v10 = .slice A lt.length c := by
                          rcases hown10.2 with ⟨h1, h2⟩ | ⟨g', cap, cur, h1, _⟩
                          · exact ⟨none, 0, by rw [h1, h2]⟩
                          · exact ⟨_, _, h1⟩
                        have hltl : lt.length = l.length := by rw [hsh2.len hgd, HSH.out.len hgd]
                        rcases hown10.2 with ⟨h1, h2⟩ | ⟨g10, cap10, cur10, h1, hbase10, hgg10, hn10, hm10, hs10, ht10⟩
                        · omega
                        cases h1
                        have hat := fun j (h : j < lt.length) => hsh2.at_ hgd j h (by show j < (turnsOf t I.ses).length; rw [← HSH.out.len hgd]; omega)
                        have HFL := Lib.hid (show ∀ j (h : j < lt.length), (lt[j].1.toList == fl.toList) = decide (j = i) from fun j h => by
                          have hjt : j < (turnsOf t I.ses).length := by rw [← HSH.out.len hgd]; omega
                          have e1 : lt[j].1 = (turnsOf t I.ses)[j] := (hat j h).filter
                          rw [e1]
                          have hpw := List.pairwise_iff_getElem.1 (turnsOf_order t I.ses)
                          have hcc := compareS_cmp
                          by_cases hji : j = i
                          · subst hji
                            rw [hft]; simp
                          · have hne : (turnsOf t I.ses)[j] ≠ fl := fun e => by
                              rw [← hft] at e
                              have e0 := (hcc.eq_ _ _).2 e
                              rcases Nat.lt_or_ge j i with h3 | h3
                              · have := hpw j i hjt hlt h3
                                omega
                              · have := hpw i j hlt hjt (by omega)
                                have := hcc.neg (turnsOf t I.ses)[i] (turnsOf t I.ses)[j]
                                omega
                            simp only [hji, decide_false]
                            rw [beq_eq_false_iff_ne]
                            exact fun e => hne (toList_inj e))
                        have hii : i < lt.length := by omega
                        have hnx : lt[i].2.1 = metS es kl (k2 + 1) := by
                          obtain ⟨es', hes', _, hk', _⟩ := (hat i hii).rest
                          have e2 : es' = es := by
                            rw [hft] at hes'
                            exact gathered_unique hes' HES.out
                          rw [hk', e2, hft, pick_head]
                          rfl
                        have HNX := Lib.hid hnx
                        have HO10 := Lib.hid hown10
                        have hb410 := hb4c.trans (hb10.mono hb4c.size)
                        have f0 := (hb410.cell (p := ⟨g4, i * 3, none⟩) hg4).trans HA01.out.1
                        have f1 := (hb410.cell (p := ⟨g4, i * 3 + 1, none⟩) hg4).trans HA01.out.2
                        have hi0 : (0 : Int) ≤ (i : Int) := by omega
                        have hi1 : (i : Int) < (l.length : Int) := by omega
                        clear hat hnx ht10 hgg10 hown10 hsh2
                        go_wp2_with fail
                        go_loopw [16, 18] (fun x v wd => ∃ (n qd : Nat) (nx : ByteArray), v = .int .i64 n ∧ n ≤ lt.length ∧ x = .string nx ∧ wd = w10.drewN qd ∧ Hid (i < n → nx = metS es kl (k2 + 1))) (fun _ v _ => lt.length - (intOf v).toNat)
                        case atStart => exact ⟨0, 0, _, rfl, by omega, rfl, rfl, fun h => by omega⟩
                        case round =>
                          obtain ⟨n, qd, nx, rfl, hn, rfl, rfl, HN⟩ := hrel
                          by_cases hnl : n < lt.length
                          · obtain ⟨a0, a1⟩ := own3_at HO10.out hnl
                            have hfe := HFL.out n hnl
                            have hn0 : (0 : Int) ≤ (n : Int) := by omega
                            have hn1 : (n : Int) < (lt.length : Int) := by omega
                            /-<-/
                            by_cases hni : n = i
                            · have HK2 := Lib.hid (show lt[n].2.1 = metS es kl (k2 + 1) by subst hni; exact HNX.out)
                              generalize lt[n].2.1 = kk at *
                              generalize lt[n].1 = ff at *
                              have heq : (ff.toList == fl.toList) = true := by rw [hfe]; simp [hni]
                              clear hfe hni
                              go_wp2
                              go_quiet (fail)
                              go_wp2
                              go_roundw
                              case rel => exact ⟨n + 1, _, kk, by go_num, by omega, rfl, rfl, fun _ => HK2.out⟩
                              case measure => simp [intOf]; omega
                            · have HN2 := Lib.hid (show i < n + 1 → nx = metS es kl (k2 + 1) from fun h => HN.out (by omega))
                              generalize lt[n].1 = ff at *
                              have heq : (ff.toList == fl.toList) = false := by rw [hfe]; simp [hni]
                              clear hfe hni a1
                              go_wp2
                              go_quiet (fail)
                              go_wp2
                              go_roundw
                              case rel => exact ⟨n + 1, _, nx, by go_num, by omega, rfl, rfl, HN2⟩
                              case measure => simp [intOf]; omega
                            /->-/
                          · have hnxe : nx = metS es kl (k2 + 1) := HN.out (by omega)
                            have HNE := Lib.hid hnxe
                            have htr := turns_round HES.out.order HKM.out (k := k2) (by rw [HEN.out]; exact hke)
                            rw [← hnxe, HEN.out] at htr
                            have hmem := met_mem HES.out.order HKM.out (k2 + 1)
                            rw [← hnxe] at hmem
                            have hemp : nx.toList.isEmpty = true → emptyS I = true := fun h => by
                              obtain ⟨x, hx, hxe⟩ := List.mem_map.1 hmem
                              have h1 := (HES.out.mem x.1 x.2).1 hx
                              have h2 : (sesM (onF fl) I.ses (fun _ => none) x.1.data.toList).isSome = true := by rw [h1]; rfl
                              rw [sesM_isSome] at h2
                              rcases h2 with h2 | ⟨S, hS, hc, _⟩
                              · cases h2
                              · have e1 : S.client = nx := by rw [← hxe]; exact bytes_inj hc
                                unfold emptyS
                                exact List.any_eq_true.2 ⟨S, hS, by rw [e1]; exact h⟩
                            have HSMN := Lib.hid (show 0 < k2 + 1 → nx = metS es kl (k2 + 1) from fun _ => hnxe)
                            have hb9' := (hb10.block wq.heap.size (blk_lt hb9)).trans hb9
                            have hbq10 := hbq9.trans (hb10.mono (by have := hbq9.size; omega))
                            have hepi : (0 : Int) < (en : Int) := by omega
                            obtain ⟨i0, i1, i2, i3⟩ := HCI.out w10 (hb04.trans (hb410.mono hw4))
                            have HB9 := Lib.hid hb9'
                            clear hmem hnxe hb9'
                            by_cases hkn : k2 = en - 1
                            · have e1 : (nx.toList == kl.toList) = true := by rw [beq_iff_eq]; exact htr.2 hkn
                              have e2 : ((k2 : Int) == (en : Int) - 1) = true := by rw [beq_iff_eq]; omega
                              clear htr
                              by_cases hem : nx.toList.isEmpty = true
                              · have hE := hemp hem
                                clear hemp
                                go_wp2_with fail
                                refine (empty_any autos _ _ _ I (w10.drewN qd) w.heap.size (HI.out.below ((below_drewN (hb04.trans (hb410.mono hw4)) qd).mono (by omega))) (by show w.heap.size ≤ w10.heap.size; have := (hb04.trans (hb410.mono hw4)).size; omega)).mono ?_
                                rintro e w11 ⟨rfl, hb11⟩
                                have f1' := (hb11.cell (p := ⟨g4, i * 3 + 1, none⟩) (World.block_lt_of_cell? w10 _ f1)).trans f1
                                have HB11 := Lib.hid ((hb11.block wq.heap.size (blk_lt HB9.out)).trans HB9.out)
                                have hbq11 := (below_drewN hbq10 qd).trans (hb11.mono (by show wq.heap.size ≤ w10.heap.size; exact hbq10.size))
                                clear i0 i1 i2 i3 f0
                                go_wp2
                                go_roundw
                                case rel => exact ⟨k2 + 1, _, nx, by go_num, by omega, rfl, HSMN, HB11.out, hbq11⟩
                                case measure => simp [intOf]; omega
                              · have hem' : nx.toList.isEmpty = false := by simpa using hem
                                clear hemp hem
                                clear i0 i1 i2 i3
                                go_wp2
                                go_roundw
                                case rel => exact ⟨k2 + 1, _, nx, by go_num, by omega, rfl, HSMN, HB9.out, below_drewN hbq10 _⟩
                                case measure => simp [intOf]; omega
                            · have e1 : (nx.toList == kl.toList) = false := by rw [beq_eq_false_iff_ne]; exact fun h => hkn (htr.1 h)
                              have e2 : ((k2 : Int) == (en : Int) - 1) = false := by rw [beq_eq_false_iff_ne]; omega
                              clear htr
                              by_cases hem : nx.toList.isEmpty = true
                              · have hE := hemp hem
                                clear hemp
                                go_wp2_with fail
                                refine (empty_any autos _ _ _ I (w10.drewN qd) w.heap.size (HI.out.below ((below_drewN (hb04.trans (hb410.mono hw4)) qd).mono (by omega))) (by show w.heap.size ≤ w10.heap.size; have := (hb04.trans (hb410.mono hw4)).size; omega)).mono ?_
                                rintro e w11 ⟨rfl, hb11⟩
                                have f1' := (hb11.cell (p := ⟨g4, i * 3 + 1, none⟩) (World.block_lt_of_cell? w10 _ f1)).trans f1
                                have HB11 := Lib.hid ((hb11.block wq.heap.size (blk_lt HB9.out)).trans HB9.out)
                                have hbq11 := (below_drewN hbq10 qd).trans (hb11.mono (by show wq.heap.size ≤ w10.heap.size; exact hbq10.size))
                                clear i0 i1 i2 i3 f0
                                go_wp2
                                go_roundw
                                case rel => exact ⟨k2 + 1, _, nx, by go_num, by omega, rfl, HSMN, HB11.out, hbq11⟩
                                case measure => simp [intOf]; omega
                              · have hem' : nx.toList.isEmpty = false := by simpa using hem
                                clear hemp hem
                                clear i0 i1 i2 i3
                                go_wp2
                                go_roundw
                                case rel => exact ⟨k2 + 1, _, nx, by go_num, by omega, rfl, HSMN, HB9.out, below_drewN hbq10 _⟩
                                case measure => simp [intOf]; omega
                  · go_wp2
                    go_roundw
                    case rel => exact ⟨i + 1, by go_num, by omega, hb4k⟩
                    case measure => simp [intOf]; omega
        · go_wp2
          go_ret
          exact ⟨rfl, hb0.trans ((hb04.trans (hbr.mono hw4)).mono (by omega))⟩
end Go.Proofs.YtjeafniglnnkhaaGreatDoor
