/- Plain words: what audit.Spare tells. -/
/- Walk: audit.Spare. -/
/- Walks: audit.Who's closure. -/
/- Walk: audit.Who. -/
/- Walks: audit.Could, over what is known of cover.Meet. -/
import Derived.Test.YtjeafniglnnkhaaGreatDoorHK9
import Derived.Test.YtjeafniglnnkhaaGreatDoorHC3
namespace Go.Proofs.YtjeafniglnnkhaaGreatDoor
open Go.RowKit

abbrev Ask' := ByteArray × Int
/-- Is the i-th filter spare by the k-th one, 'Wf' saying which filter lies within which? -/
def spS (Wf : ByteArray → ByteArray → Bool) (l : List (ByteArray × Int)) (i k : Nat) : Bool :=
  match l[i]?, l[k]? with
  | some x, some y => spareV i k (sharedS x.1).isSome x.2 y.2 (Wf x.1 y.1) (Wf y.1 x.1)
  | _, _ => false

def spOne (Wf : ByteArray → ByteArray → Bool) (c : ByteArray) (l : List (ByteArray × Int)) (i : Nat) : List (ByteArray × ByteArray × ByteArray) :=
  match (List.range l.length).find? (spS Wf l i) with
  | some k => match l[i]?, l[k]? with
    | some x, some y => [(c, x.1, y.1)]
    | _, _ => []
  | none => []

def spSes (Wf : ByteArray → ByteArray → Bool) (S : Ses) : List (ByteArray × ByteArray × ByteArray) := (List.range S.subs.length).flatMap (spOne Wf S.client S.subs)
def spAll (Wf : ByteArray → ByteArray → Bool) (l : List Ses) : List (ByteArray × ByteArray × ByteArray) := l.flatMap (spSes Wf)

def encP (s : ByteArray × ByteArray × ByteArray) : List Value := [.string s.1, .string s.2.1, .string s.2.2]
theorem encP_len (s : ByteArray × ByteArray × ByteArray) : (encP s).length = 3 := rfl

theorem spOne_len (Wf : ByteArray → ByteArray → Bool) (c : ByteArray) (l : List (ByteArray × Int)) (i : Nat) : (spOne Wf c l i).length ≤ 1 := by
  unfold spOne
  split
  · split <;> simp
  · simp

theorem info62 : (Tryz.prog.info? 62).map (fun i => (i.zero, i.size, i.bytes)) = some (some (.agg #[.string ByteArray.empty, .string ByteArray.empty, .string ByteArray.empty]), 3, 48) := by kernel_rfl

theorem find_none_to (p : Nat → Bool) (n : Nat) (h : ∀ k, k < n → p k = false) : (List.range n).find? p = none := by
  rw [List.find?_eq_none]
  intro k hk
  rw [h k (List.mem_range.1 hk)]
  simp

theorem find_hit (p : Nat → Bool) (n k : Nat) (hk : k < n) (h : p k = true) (hb : ∀ j, j < k → p j = false) : (List.range n).find? p = some k := by
  rw [List.find?_eq_some_iff_getElem]
  refine ⟨h, k, by simpa using hk, by simp, fun j hj => ?_⟩
  simp [hb j hj]
end Go.Proofs.YtjeafniglnnkhaaGreatDoor

namespace Go.Proofs.YtjeafniglnnkhaaGreatDoor
open Go.RowKit

/-- What is known of the filters' lying within one another, where it is asked. -/
def WithinsOf (Wf : ByteArray → ByteArray → Bool) (l : List (ByteArray × Int)) : Prop :=
  ∀ i k (hi : i < l.length) (hk : k < l.length), i ≠ k → (sharedS l[i].1).isSome = false → ¬ l[k].2 < l[i].2 → (∀ m, m < k → spS Wf l i m = false) →
    (∀ W, Calls Tryz.prog 70 #[.string l[i].1, .string l[k].1] W fun e w' => e = .returned (.bool (Wf l[i].1 l[k].1)) ∧ Below W.heap.size W w') ∧
    (Wf l[i].1 l[k].1 = true → ∀ W, Calls Tryz.prog 70 #[.string l[k].1, .string l[i].1] W fun e w' => e = .returned (.bool (Wf l[k].1 l[i].1)) ∧ Below W.heap.size W w')

theorem sp_call (Wf : ByteArray → ByteArray → Bool) (l : List (ByteArray × Int)) (hW : WithinsOf Wf l) (hs : ∀ a ∈ l, a.1.size ≤ 1000000) (hl : l.length ≤ 40) (b o c i k : Nat) (B : Nat) (w : World) (hrows : IsRows w B 2 (.slice (some ⟨b, o, none⟩) l.length c) l.length (AskCells l)) (hi : i < l.length) (hk : k < l.length) (hN : ∀ m, m < k → spS Wf l i m = false) :
    Calls Tryz.prog 46 #[.slice (some ⟨b, o, none⟩) l.length c, .int .i64 i, .int .i64 k] w fun e w' => e = .returned (.bool (spS Wf l i k)) ∧ Below w.heap.size w w' := by
  obtain ⟨b1, o1, e1, _, x0, x1⟩ := asks_at hrows hi
  cases e1
  obtain ⟨b2, o2, e2, _, y0, y1⟩ := asks_at hrows hk
  cases e2
  have h := spare_any b o l.length c i k l[i].1 l[k].1 l[i].2 l[k].2 (Wf l[i].1 l[k].1) (Wf l[k].1 l[i].1) w hi hk (by omega) x0 x1 y0 y1 (hs _ (List.getElem_mem hi)) (fun h1 h2 h3 => (hW i k hi hk h1 h2 h3 hN).1) (fun h1 h2 h3 h4 => (hW i k hi hk h1 h2 h3 hN).2 h4)
  have e : spS Wf l i k = spareV i k (sharedS l[i].1).isSome l[i].2 l[k].2 (Wf l[i].1 l[k].1) (Wf l[k].1 l[i].1) := by
    unfold spS
    rw [List.getElem?_eq_getElem hi, List.getElem?_eq_getElem hk]
  rw [e]
  exact h

theorem spAll_take (Wf : ByteArray → ByteArray → Bool) (l : List Ses) (k : Nat) (h : k < l.length) : spAll Wf (l.take (k + 1)) = spAll Wf (l.take k) ++ spSes Wf l[k] := by
  unfold spAll
  rw [List.take_succ_eq_append_getElem h, List.flatMap_append]
  simp only [List.flatMap_cons, List.flatMap_nil, List.append_nil]

theorem row_ne_type {w : World} {base : Nat} {e t : TypeId} {size n g : Nat} {v : Value} {xs : List Value} {cs : Array Value} {fr : Nat × Nat} (h : w.ownsRow base e size v n xs) (hb : w.heap[g]? = some (.cells cs t fr)) (hne : t ≠ e) : some g ≠ v.ownBlock := by
  rcases h.2 with ⟨rfl, _⟩ | ⟨g', cap, cur, rfl, _, hg, _⟩
  · simp [Value.ownBlock]
  · intro e1
    have : g = g' := by simpa [Value.ownBlock] using e1
    subst this
    rw [hb] at hg
    injection hg with hg
    injection hg with _ h2 _
    exact hne h2

def spTo (Wf : ByteArray → ByteArray → Bool) (c : ByteArray) (l : List (ByteArray × Int)) (i : Nat) : List (ByteArray × ByteArray × ByteArray) := (List.range i).flatMap (spOne Wf c l)
theorem spTo_succ (Wf : ByteArray → ByteArray → Bool) (c : ByteArray) (l : List (ByteArray × Int)) (i : Nat) : spTo Wf c l (i + 1) = spTo Wf c l i ++ spOne Wf c l i := by
  unfold spTo
  rw [List.range_succ, List.flatMap_append]
  simp only [List.flatMap_cons, List.flatMap_nil, List.append_nil]

theorem spOne_hit (Wf : ByteArray → ByteArray → Bool) (c : ByteArray) (l : List (ByteArray × Int)) (i k : Nat) (hi : i < l.length) (hk : k < l.length) (h : spS Wf l i k = true) (hb : ∀ j, j < k → spS Wf l i j = false) : spOne Wf c l i = [(c, l[i].1, l[k].1)] := by
  unfold spOne
  rw [find_hit _ _ k hk h hb]
  simp [hi, hk]
theorem spOne_miss (Wf : ByteArray → ByteArray → Bool) (c : ByteArray) (l : List (ByteArray × Int)) (i : Nat) (hb : ∀ j, j < l.length → spS Wf l i j = false) : spOne Wf c l i = [] := by
  unfold spOne
  rw [find_none_to _ _ hb]

set_option maxRecDepth 100000 in
set_option maxHeartbeats 4000000 in
theorem spare_all (Wf : ByteArray → ByteArray → Bool) (autos : Int) (vs vr vg : Value) (I : Img) (w : World) (B : Nat) (hI : IsImg w B vs vr vg I) (hB : B ≤ w.heap.size) (hok : ImgOk I) (hW : ∀ S ∈ I.ses, WithinsOf Wf S.subs) :
    Calls Tryz.prog 18 #[.agg #[.int .i64 autos, vs, vr, vg]] w fun e w' => ∃ v, e = .returned v ∧ w'.ownsRow w.heap.size 62 3 v (spAll Wf I.ses).length ((spAll Wf I.ses).flatMap encP) ∧ Below w.heap.size w w' := by
  obtain ⟨As, cs, Ar, nr, cr, Ag, cg, rfl, rfl, rfl, hcs, hcg, hns1, hng⟩ := hI.vals
  obtain ⟨w0, hw0, hb0, hsz0, hI0, i0', i1, i2, i3⟩ := boxed (autos := autos) hI hB
  have HW := Lib.hid hw0
  have HI := Lib.hid hI0
  have HWI := Lib.hid hW
  have hns := hok.ses
  clear hI hw0 hI0 i0' i2 i3 hW
  obtain ⟨i0, hi, hz0, hz1, hz2⟩ := info_parts info62
  go_enter Tryz.func18, Tryz.ntmps18
  go_wp2
  rw [← HW.out]
  go_loopw [3, 13] (fun v i wr => ∃ (k : Nat) (out : List (ByteArray × ByteArray × ByteArray)), i = .int .i64 k ∧ k ≤ I.ses.length ∧ out.length ≤ 40 * k ∧ wr.ownsRow w0.heap.size 62 3 v out.length (out.flatMap encP) ∧ Hid (out = spAll Wf (I.ses.take k)) ∧ Below w0.heap.size w0 wr) (fun _ i _ => I.ses.length - (intOf i).toNat)
  case atStart => exact ⟨0, [], rfl, by omega, by simp, World.ownsRow_nil _ _ _ _, rfl, Below.refl _ _⟩
  case round =>
    obtain ⟨k, out, rfl, hk, hol, hrow, HO, hbr⟩ := hrel
    by_cases hlt : k < I.ses.length
    · obtain ⟨bb, oo, rfl, hbb, Au, Af, Aq, Ai, cu, cf, cq, ci, nf, nq, ni, last, g0, g1, g2, g3, g4, g5, r1, hul⟩ := HI.out.at_ hlt
      have hbb0 : bb < w0.heap.size := by omega
      have q0 := (hbr.cell (p := ⟨bb, oo + k * 6, none⟩) hbb0).trans g0
      have q1 := (hbr.cell (p := ⟨bb, oo + k * 6 + 1, none⟩) hbb0).trans g1
      have q2 := (hbr.cell (p := ⟨bb, oo + k * 6 + 2, none⟩) hbb0).trans g2
      have q3 := (hbr.cell (p := ⟨bb, oo + k * 6 + 3, none⟩) hbb0).trans g3
      have q4 := (hbr.cell (p := ⟨bb, oo + k * 6 + 4, none⟩) hbb0).trans g4
      have q5 := (hbr.cell (p := ⟨bb, oo + k * 6 + 5, none⟩) hbb0).trans g5
      have R1 := Lib.hid r1
      have s0 := box_cell wr #[.string I.ses[k].client, .slice Au I.ses[k].subs.length cu, .int .i64 last, .slice Af nf cf, .slice Aq nq cq, .slice Ai ni ci] 47 0 (u := .string I.ses[k].client) rfl
      have s1 := box_cell wr #[.string I.ses[k].client, .slice Au I.ses[k].subs.length cu, .int .i64 last, .slice Af nf cf, .slice Aq nq cq, .slice Ai ni ci] 47 1 (u := .slice Au I.ses[k].subs.length cu) rfl
      have hbox : Below wr.heap.size wr (wr.alloc (.cells #[.string I.ses[k].client, .slice Au I.ses[k].subs.length cu, .int .i64 last, .slice Af nf cf, .slice Aq nq cq, .slice Ai ni ci] 47)) := (Below.refl _ _).alloc (Nat.le_refl _) _
      have sb : (wr.alloc (.cells #[.string I.ses[k].client, .slice Au I.ses[k].subs.length cu, .int .i64 last, .slice Af nf cf, .slice Aq nq cq, .slice Ai ni ci] 47)).heap[wr.heap.size]? = some (.cells #[.string I.ses[k].client, .slice Au I.ses[k].subs.length cu, .int .i64 last, .slice Af nf cf, .slice Aq nq cq, .slice Ai ni ci] 47 (0, 0)) := heap_alloc_new wr _
      have hrow1 := hrow.alloc (.cells #[.string I.ses[k].client, .slice Au I.ses[k].subs.length cu, .int .i64 last, .slice Af nf cf, .slice Aq nq cq, .slice Ai ni ci] 47)
      have hwr := hbr.size
      clear g0 g1 g2 g3 g4 g5 r1
      go_wp2
      generalize wr.alloc (.cells #[.string I.ses[k].client, .slice Au I.ses[k].subs.length cu, .int .i64 last, .slice Af nf cf, .slice Aq nq cq, .slice Ai ni ci] 47) = w2 at *
      have hS : I.ses[k] ∈ I.ses := List.getElem_mem hlt
      have hc40 := hok.subs _ hS
      have hasz := hok.asks _ hS
      have HWS := Lib.hid (HWI.out _ hS)
      have HST := Lib.hid (show spAll Wf (I.ses.take (k + 1)) = spAll Wf (I.ses.take k) ++ spTo Wf I.ses[k].client I.ses[k].subs I.ses[k].subs.length from spAll_take Wf I.ses k hlt)
      generalize hcc : I.ses[k].client = cc at *
      generalize hll : I.ses[k].subs = ll at *
      have hb2 : Below w0.heap.size w0 w2 := hbr.trans (hbox.mono hwr)
      have HG0 := Lib.hid (show out = spAll Wf (I.ses.take k) ++ spTo Wf cc ll 0 by rw [HO.out]; simp [spTo])
      clear hll hcc hbox q0 q1 q2 q3 q4 q5 hrow
      go_loopw [3, 20] (fun v i wi => ∃ (j : Nat) (ou : List (ByteArray × ByteArray × ByteArray)), i = .int .i64 j ∧ j ≤ ll.length ∧ ou.length ≤ 40 * k + j ∧ wi.ownsRow w0.heap.size 62 3 v ou.length (ou.flatMap encP) ∧ Hid (ou = spAll Wf (I.ses.take k) ++ spTo Wf cc ll j) ∧ Below w0.heap.size w0 wi ∧ wi.cell? ⟨wr.heap.size, 0, none⟩ = some (.string cc) ∧ wi.cell? ⟨wr.heap.size, 1, none⟩ = some (.slice Au ll.length cu) ∧ ∃ sc, wi.heap[wr.heap.size]? = some (.cells sc 47 (0, 0))) (fun _ i _ => ll.length - (intOf i).toNat)
      case atStart => exact ⟨0, out, rfl, by omega, by omega, hrow1, HG0, hb2, s0, s1, _, sb⟩
      case round =>
        obtain ⟨wo, rfl⟩ : ∃ wo : World, wo = wr := ⟨_, rfl⟩
        obtain ⟨j, ou, rfl, hj, hgl, hrowE, HG, hbi, c0, c1, sc, sb0⟩ := hrel
        clear hrow1 s0 s1 sb
        by_cases hjk : j < ll.length
        · obtain ⟨ba, oa, rfl, hba, a0, a1⟩ := asks_at (R1.out.below (hbi.mono (by omega)) (fun _ _ h => h)) hjk
          have HSC := Lib.hid (spTo_succ Wf cc ll j)
          have hwo := hbi.size
          have t0 := box_cell wo #[.string ll[j].1, .int .i64 ll[j].2] 49 0 (u := .string ll[j].1) rfl
          have hbox : Below wo.heap.size wo (wo.alloc (.cells #[.string ll[j].1, .int .i64 ll[j].2] 49)) := (Below.refl _ _).alloc (Nat.le_refl _) _
          have d0 := alloc_keep c0 (.cells #[.string ll[j].1, .int .i64 ll[j].2] 49)
          have d1 := alloc_keep c1 (.cells #[.string ll[j].1, .int .i64 ll[j].2] 49)
          have hrow3 := hrowE.alloc (.cells #[.string ll[j].1, .int .i64 ll[j].2] 49)
          have hb3 : Below w0.heap.size w0 (wo.alloc (.cells #[.string ll[j].1, .int .i64 ll[j].2] 49)) := hbi.trans (hbox.mono hwo)
          have sb3 := (heap_alloc_old wo (.cells #[.string ll[j].1, .int .i64 ll[j].2] 49) (World.block_lt_of_cell? _ _ c0)).trans sb0
          have SB := Lib.hid (World.block_lt_of_cell? _ _ c0)
          clear hbox c0 c1
          go_wp2_with fail
          generalize wo.alloc (.cells #[.string ll[j].1, .int .i64 ll[j].2] 49) = w3 at *
          go_loopw [3, 28] (fun v i wi => ∃ k2 : Nat, i = .int .i64 k2 ∧ k2 ≤ ll.length ∧ wi.ownsRow w0.heap.size 62 3 v ou.length (ou.flatMap encP) ∧ Hid (∀ m, m < k2 → spS Wf ll j m = false) ∧ Below w0.heap.size w0 wi ∧ wi.cell? ⟨wr.heap.size, 0, none⟩ = some (.string cc) ∧ wi.cell? ⟨wr.heap.size, 1, none⟩ = some (.slice (some ⟨ba, oa, none⟩) ll.length cu) ∧ wi.cell? ⟨wo.heap.size, 0, none⟩ = some (.string ll[j].1) ∧ wi.heap[wr.heap.size]? = some (.cells sc 47 (0, 0))) (fun _ i _ => ll.length - (intOf i).toNat)
          case atStart => exact ⟨0, rfl, by omega, hrow3, (fun m h => by omega), hb3, d0, d1, t0, sb3⟩
          case round =>
            obtain ⟨wi, rfl⟩ : ∃ wi : World, wi = wr := ⟨_, rfl⟩
            obtain ⟨k2, rfl, hk2, hrowI, HN, hbI, f0, f1, f2, sbI⟩ := hrel
            clear hrow3 d0 d1 t0 a0 a1 sb3 sb0
            by_cases hkk : k2 < ll.length
            · have HR := Lib.hid (R1.out.below (hbI.mono (by omega)) (fun _ _ h => h))
              obtain ⟨b4, o4, e4, _, y0, y1⟩ := asks_at HR.out hkk
              cases e4
              have hwi := hbI.size
              have u0 := box_cell wi #[.string ll[k2].1, .int .i64 ll[k2].2] 49 0 (u := .string ll[k2].1) rfl
              have hbox : Below wi.heap.size wi (wi.alloc (.cells #[.string ll[k2].1, .int .i64 ll[k2].2] 49)) := (Below.refl _ _).alloc (Nat.le_refl _) _
              have k0 := alloc_keep f0 (.cells #[.string ll[k2].1, .int .i64 ll[k2].2] 49)
              have k1 := alloc_keep f1 (.cells #[.string ll[k2].1, .int .i64 ll[k2].2] 49)
              have k3 := alloc_keep f2 (.cells #[.string ll[k2].1, .int .i64 ll[k2].2] 49)
              have hrow4 := hrowI.alloc (.cells #[.string ll[k2].1, .int .i64 ll[k2].2] 49)
              have hb4 : Below w0.heap.size w0 (wi.alloc (.cells #[.string ll[k2].1, .int .i64 ll[k2].2] 49)) := hbI.trans (hbox.mono hwi)
              have HR4 := Lib.hid (HR.out.below (hbox.mono (by omega)) (fun _ _ h => h))
              have sb4 := (heap_alloc_old wi (.cells #[.string ll[k2].1, .int .i64 ll[k2].2] 49) (World.block_lt_of_cell? _ _ f0)).trans sbI
              clear hbox f0 f1 f2
              go_wp2_with fail
              generalize wi.alloc (.cells #[.string ll[k2].1, .int .i64 ll[k2].2] 49) = w4 at *
              refine (sp_call Wf ll HWS.out hasz hc40 ba oa cu j k2 B w4 HR4.out hjk hkk HN.out).mono ?_
              rintro e w5 ⟨rfl, hb5⟩
              have m0 := (hb5.cell (p := ⟨wr.heap.size, 0, none⟩) (World.block_lt_of_cell? _ _ k0)).trans k0
              have m1 := (hb5.cell (p := ⟨wr.heap.size, 1, none⟩) (World.block_lt_of_cell? _ _ k1)).trans k1
              have m3 := (hb5.cell (p := ⟨wo.heap.size, 0, none⟩) (World.block_lt_of_cell? _ _ k3)).trans k3
              have m4 := (hb5.cell (p := ⟨wi.heap.size, 0, none⟩) (World.block_lt_of_cell? _ _ u0)).trans u0
              have hrow5 := owns_below hrow4 hb5
              have hb5' := hb4.trans (hb5.mono hb4.size)
              have hol2 : ou.length ≤ 10000000 := by omega
              have hsz5 := hb5'.size
              have sb5 := (hb5.block wr.heap.size (World.block_lt_of_cell? _ _ k0)).trans sb4
              clear y0 y1 k0 k1 k3 u0 hrow4 sb4 sbI
              cases hsp : spS Wf ll j k2
              · have HN2 := Lib.hid (show ∀ m, m < k2 + 1 → spS Wf ll j m = false from fun m h => by
                  rcases Nat.lt_or_ge m k2 with h' | h'
                  · exact HN.out m h'
                  · obtain rfl : m = k2 := by omega
                    exact hsp)
                clear hsp
                go_wp2
                go_roundw
                case rel => exact ⟨k2 + 1, by go_num, by omega, hrow5, HN2, hb5', m0, m1, m3, sb5⟩
                case measure => simp [intOf]; omega
              · have HN2 := Lib.hid (show ou ++ [(cc, ll[j].1, ll[k2].1)] = spAll Wf (I.ses.take k) ++ spTo Wf cc ll (j + 1) by
                  rw [HSC.out, HG.out, spOne_hit Wf cc ll j k2 hjk hkk hsp HN.out, List.append_assoc])
                clear hsp
                generalize ll[j].1 = xf at *
                generalize ll[k2].1 = yf at *
                go_wp2_with (first | (at_builtin; refine wpList_app rfl _ _ 59 rfl w0.heap.size 62 i0 _ 3 48 Tryz.underlying59 hi hz0 hz1 hz2 rfl (by decide) _ _ _ rfl hrow5 [.string cc, .string xf, .string yf] rfl rfl (by intro u hu; simp at hu; rcases hu with rfl | rfl | rfl <;> rfl) hol2 (by decide) hsz5 ?_; intro v' w6 hown6 hbel6 hsz6 hdr6 hg6; have r0 := (hg6.block wr.heap.size (World.block_lt_of_cell? _ _ m0) (row_ne_type hrow5 sb5 (by decide))); go_frame))
                go_roundw
                case rel => exact ⟨j + 1, ou ++ [(cc, xf, yf)], by go_num, by omega, by simp; omega, by simpa [encP] using hown6, HN2, hb5'.trans hbel6, (World.cell?_of_block (a := ⟨wr.heap.size, 0, none⟩) r0).trans m0, (World.cell?_of_block (a := ⟨wr.heap.size, 1, none⟩) r0).trans m1, sc, r0.trans sb5⟩
                case measure => simp [intOf]; omega
            · have HN2 := Lib.hid (show ou = spAll Wf (I.ses.take k) ++ spTo Wf cc ll (j + 1) by
                rw [HSC.out, spOne_miss Wf cc ll j (fun m hm => HN.out m (by omega)), List.append_nil, HG.out])
              go_wp2
              go_roundw
              case rel => exact ⟨j + 1, ou, by go_num, by omega, by omega, hrowI, HN2, hbI, f0, f1, sc, sbI⟩
              case measure => simp [intOf]; omega
        · have HN2 := Lib.hid (show ou = spAll Wf (I.ses.take (k + 1)) by
            have hjl : j = ll.length := by omega
            have h := HG.out
            rw [hjl] at h
            rw [HST.out, h])
          go_wp2
          go_roundw
          case rel => exact ⟨k + 1, ou, by go_num, by omega, by omega, hrowE, HN2, hbi⟩
          case measure => simp [intOf]; omega
    · have HN2 := Lib.hid (show out = spAll Wf I.ses by
        have h := HO.out
        rwa [List.take_of_length_le (by omega)] at h)
      go_wp2
      go_ret
      exact ⟨_, rfl, by rw [← HN2.out]; exact owns_mono hrow (by omega), hb0.trans (hbr.mono (by omega))⟩
end Go.Proofs.YtjeafniglnnkhaaGreatDoor

namespace Go.Proofs.YtjeafniglnnkhaaGreatDoor
open Go.RowKit

set_option maxHeartbeats 400000 in
theorem whoIs_any (f t : ByteArray) (q : Int) (b : Nat) (w : World) (hf : f.size ≤ 1000000) (ht : t.size ≤ 1000000) (hm : w.cell? ⟨b, 0, none⟩ = some (.string t)) :
    Calls Tryz.prog 55 #[.agg #[.string f, .int .i64 q], .pointer (some ⟨b, 0, none⟩)] w fun e w' => e = .returned (.bool (matchS f t)) ∧ Below w.heap.size w w' := by
  have g0 := alloc_keep hm (.cells #[.string f, .int .i64 q] 49)
  have f0 := box_cell w #[.string f, .int .i64 q] 49 0 (u := .string f) rfl
  have hbx := (alloc_lay w (.cells #[.string f, .int .i64 q] 49)).1
  clear hm
  go_enter Tryz.func55, Tryz.ntmps55
  go_wp2_with fail
  generalize w.alloc (.cells #[.string f, .int .i64 q] 49) = w1 at *
  refine (match_any f t w1 hf ht).mono ?_
  rintro e w2 ⟨rfl, hb⟩
  go_wp2
  go_ret
  exact ⟨rfl, hbx.trans (hb.mono hbx.size)⟩
end Go.Proofs.YtjeafniglnnkhaaGreatDoor

namespace Go.Proofs.YtjeafniglnnkhaaGreatDoor
open Go.RowKit

def capE (q : Int) (a : ByteArray × Int) : ByteArray × Int := (a.1, min a.2 q)

def WhoPost (I : Img) (t : ByteArray) (q : Int) (w : World) (e : Ending) (w' : World) : Prop :=
  ∃ (v : Value) (l : List (ByteArray × Int)), e = .returned v ∧ (goodB q = false → l = []) ∧ (goodB q = true → ∃ es, IsGathered (sesM (fun a => matchS a.1 t) I.ses fun _ => none) es ∧ l = es.map (capE q)) ∧ w'.ownsRow w.heap.size 69 2 v l.length (l.flatMap encE) ∧ Below w.heap.size w w'

theorem own_set_at {w : World} {base : Nat} {e : TypeId} {g n cap size : Nat} {xs : List Value} (h : w.ownsRow base e size (.slice (some ⟨g, 0, none⟩) n cap) n xs) (j : Nat) (u : Value) :
    (w.setCell ⟨g, j, none⟩ u).ownsRow base e size (.slice (some ⟨g, 0, none⟩) n cap) n (xs.set j u) := by
  have hl := h.1
  rcases h.2 with ⟨h1, _⟩ | ⟨g', cap', cur, h1, hb, hg, hn, hm, hs, ht⟩
  · cases h1
  cases h1
  refine ⟨by simpa using hl, .inr ⟨g, cap, cur.setIfInBounds j u, rfl, hb, blk_setC hg j u, hn, hm, by simpa using hs, ?_⟩⟩
  rw [Array.toList_setIfInBounds, List.take_set, ht]

theorem set_pair (A D : List Value) (a b u : Value) (j : Nat) (hj : j = A.length + 1) : (A ++ (a :: b :: D)).set j u = A ++ (a :: u :: D) := by
  subst hj
  rw [List.set_append, if_neg (by omega), show A.length + 1 - A.length = 1 by omega]
  rfl

theorem cap_step (q : Int) (es : List (ByteArray × Int)) (k : Nat) (h : k < es.length) :
    (((es.take k).map (capE q) ++ es.drop k).flatMap encE).set (k * 2 + 1) (.int .i64 (min es[k].2 q)) = ((es.take (k + 1)).map (capE q) ++ es.drop (k + 1)).flatMap encE := by
  rw [List.take_succ_eq_append_getElem h, List.drop_eq_getElem_cons h, List.map_append, List.flatMap_append, List.flatMap_append, List.flatMap_append, List.flatMap_cons]
  have hlen : (((es.take k).map (capE q)).flatMap encE).length = k * 2 := by
    rw [flat_length encE 2 encE_len, List.length_map, List.length_take, Nat.min_eq_left (Nat.le_of_lt h)]
  have := set_pair (((es.take k).map (capE q)).flatMap encE) ((es.drop (k + 1)).flatMap encE) (.string es[k].1) (.int .i64 es[k].2) (.int .i64 (min es[k].2 q)) (k * 2 + 1) (by rw [hlen])
  simpa [encE, capE] using this

set_option maxRecDepth 100000 in
set_option maxHeartbeats 4000000 in
theorem who_any (autos : Int) (vs vr vg : Value) (I : Img) (t : ByteArray) (Am : Option Addr) (mm cm : Nat) (q : Int) (rr : Bool) (w : World) (B : Nat) (hI : IsImg w B vs vr vg I) (hB : B ≤ w.heap.size) (hok : ImgOk I) (ht : t.size ≤ 1000000) :
    Calls Tryz.prog 20 #[.agg #[.int .i64 autos, vs, vr, vg], .agg #[.string t, .slice Am mm cm, .int .i64 q, .bool rr]] w (WhoPost I t q w) := by
  obtain ⟨As, cs, Ar, nr, cr, Ag, cg, rfl, rfl, rfl, hcs, hcg, hns1, hng⟩ := hI.vals
  obtain ⟨w0, hw0, hb0, hsz0, hI0, hic, hmc⟩ := boxed2 (autos := autos) (t := t) (A := Am) (m := mm) (c := cm) (q := q) (rr := rr) hI hB
  have HW := Lib.hid hw0
  have HI := Lib.hid hI0
  have m2 : w0.cell? ⟨w.heap.size + 1, 2, none⟩ = some (.int .i64 q) := hmc 2 _ rfl
  have m0 : w0.cell? ⟨w.heap.size + 1, 0, none⟩ = some (.string t) := hmc 0 _ rfl
  have i0 : w0.cell? ⟨w.heap.size, 0, none⟩ = some (.int .i64 autos) := hic 0 _ rfl
  have i1 : w0.cell? ⟨w.heap.size, 1, none⟩ = some (.slice As I.ses.length cs) := hic 1 _ rfl
  have i2 : w0.cell? ⟨w.heap.size, 2, none⟩ = some (.slice Ar nr cr) := hic 2 _ rfl
  have i3 : w0.cell? ⟨w.heap.size, 3, none⟩ = some (.slice Ag I.groups.length cg) := hic 3 _ rfl
  clear hI hw0 hI0 hic hmc
  go_enter Tryz.func20, Tryz.ntmps20
  go_wp2_with fail
  refine (good_any q _).mono ?_
  rintro e w' ⟨rfl, hw⟩
  rw [hw, ← HW.out]
  clear hw w'
  by_cases hgq : goodB q = true
  · have hl1 : w.heap.size + 1 < w0.heap.size := by omega
    go_wp2_with fail
    refine (gathered_any autos _ _ _ I w0 B HI.out (by omega) hok.ses hok.subs hok.client 55 #[.pointer (some ⟨w.heap.size + 1, 0, none⟩)] (enters_of Tryz.func55 (by kernel_rfl) rfl) (fun a => matchS a.1 t) (fun S hS a ha W hW => whoIs_any a.1 t a.2 (w.heap.size + 1) W (hok.asks S hS a ha) ht ((hW.cell (p := ⟨w.heap.size + 1, 0, none⟩) hl1).trans m0))).mono ?_
    rintro e w1 ⟨v1, es, rfl, hes, hown1, hb1⟩
    obtain ⟨A1, c1, rfl⟩ : ∃ A c, v1 = .slice A es.length c := by
      rcases hown1.2 with ⟨h1, h2⟩ | ⟨g', cap, cur, h1, _⟩
      · exact ⟨none, 0, by rw [h1, h2]⟩
      · exact ⟨_, _, h1⟩
    have HES := Lib.hid hes
    have HM2 := Lib.hid m2
    clear i0 i1 i2 i3 m0 m2 hes
    go_wp2
    go_loopw [16] (fun i wr => ∃ k : Nat, i = .int .i64 k ∧ k ≤ es.length ∧ wr.ownsRow w0.heap.size 69 2 (.slice A1 es.length c1) es.length (((es.take k).map (capE q) ++ es.drop k).flatMap encE) ∧ Below w0.heap.size w0 wr) (fun i _ => es.length - (intOf i).toNat)
    case atStart => exact ⟨0, rfl, by omega, by simpa using hown1, hb1⟩
    case round =>
      obtain ⟨k, rfl, hk, hrow, hbr⟩ := hrel
      by_cases hlt : k < es.length
      · rcases hrow.2 with ⟨h1, h2⟩ | ⟨g, cap, cur, h1, hbg, hgg, hn2, hm3, hs2, ht2⟩
        · omega
        cases h1
        have hlen : ((es.take k).map (capE q) ++ es.drop k).length = es.length := by simp; omega
        have e1 := (own_at hrow (j := k) (by rw [hlen]; exact hlt)).2
        have hek : ((es.take k).map (capE q) ++ es.drop k)[k]'(by rw [hlen]; exact hlt) = es[k] := by
          rw [List.getElem_append_right (by simp; omega)]
          simp [Nat.min_eq_left (Nat.le_of_lt hlt)]
        rw [hek] at e1
        have hfz := blk_frozen hgg (k * 2 + 1)
        have m2 := (hbr.cell (p := ⟨w.heap.size + 1, 2, none⟩) hl1).trans (show w0.cell? ⟨w.heap.size + 1, 2, none⟩ = _ from HM2.out)
        have hk0 : (0 : Int) ≤ (k : Int) := by omega
        have hk1 : (k : Int) < (es.length : Int) := by omega
        have hlb : es.length ≤ 9223372036854775807 := by unfold maxLen at hm3; omega
        have HLEN := Lib.hid hlen
        clear hek
        go_wp2_with fail
        go_region
        have hcs := cap_step q es k hlt
        go_wp2
        go_roundw
        case rel => exact ⟨k + 1, by go_num, by omega, by rw [← hcs]; exact (own_set_at hrow (k * 2 + 1) _).drew, (hbr.setCell (p := ⟨g, k * 2 + 1, none⟩) hbg _).drew⟩
        case measure => simp [intOf]; omega
      · have HL := Lib.hid (show (es.take k).map (capE q) ++ es.drop k = es.map (capE q) by rw [List.take_of_length_le (by omega), List.drop_of_length_le (by omega), List.append_nil])
        go_wp2
        go_ret
        exact ⟨_, es.map (capE q), rfl, fun h => by (rw [hgq] at h; cases h), fun _ => ⟨es, HES.out, rfl⟩, by rw [List.length_map, ← HL.out]; exact owns_mono hrow (by omega), hb0.trans (hbr.mono (by omega))⟩
  · have hgq' : goodB q = false := by simpa using hgq
    go_wp2
    go_ret
    exact ⟨_, [], rfl, fun _ => rfl, fun h => absurd h hgq, World.ownsRow_nil _ _ _ _, hb0⟩
end Go.Proofs.YtjeafniglnnkhaaGreatDoor

namespace Go.Proofs.YtjeafniglnnkhaaGreatDoor
open Go.RowKit

/-- What is known of a call of cover.Meet: whether the two meet. -/
def MeetIs (f g : ByteArray) (r : Bool) : Prop := ∀ W, Calls Tryz.prog 57 #[.string f, .string g] W fun e w' => (∃ s, e = .returned (.tuple #[.string s, .bool r])) ∧ Below W.heap.size W w'

set_option maxHeartbeats 400000 in
theorem couldIs_any (f g : ByteArray) (q : Int) (r : Bool) (b : Nat) (w : World) (hM : MeetIs f g r) (hm : w.cell? ⟨b, 0, none⟩ = some (.string g)) :
    Calls Tryz.prog 56 #[.agg #[.string f, .int .i64 q], .pointer (some ⟨b, 0, none⟩)] w fun e w' => e = .returned (.bool r) ∧ Below w.heap.size w w' := by
  have g0 := alloc_keep hm (.cells #[.string f, .int .i64 q] 49)
  have f0 := box_cell w #[.string f, .int .i64 q] 49 0 (u := .string f) rfl
  have hbx := (alloc_lay w (.cells #[.string f, .int .i64 q] 49)).1
  have HM := fun W => Lib.hid (hM W)
  clear hm hM
  go_enter Tryz.func56, Tryz.ntmps56
  go_wp2_with fail
  generalize w.alloc (.cells #[.string f, .int .i64 q] 49) = w1 at *
  refine (HM w1).out.mono ?_
  rintro e w2 ⟨⟨s, rfl⟩, hb⟩
  go_wp2
  go_ret
  exact ⟨rfl, hbx.trans (hb.mono hbx.size)⟩

set_option maxRecDepth 100000 in
set_option maxHeartbeats 2000000 in
theorem could_any (autos : Int) (vs vr vg : Value) (I : Img) (g : ByteArray) (mt : ByteArray → Bool) (w : World) (B : Nat) (hI : IsImg w B vs vr vg I) (hB : B ≤ w.heap.size) (hok : ImgOk I) (hM : ∀ S ∈ I.ses, ∀ a ∈ S.subs, MeetIs a.1 g (mt a.1)) :
    Calls Tryz.prog 22 #[.agg #[.int .i64 autos, vs, vr, vg], .string g] w (GatherPost w (sesM (fun a => mt a.1) I.ses fun _ => none)) := by
  obtain ⟨As, cs, Ar, nr, cr, Ag, cg, rfl, rfl, rfl, hcs, hcg, hns1, hng⟩ := hI.vals
  have hb1 : Below w.heap.size w (w.alloc (.cells #[.int .i64 autos, .slice As I.ses.length cs, .slice Ar nr cr, .slice Ag I.groups.length cg] 26)) := (alloc_lay w _).1
  have hb2 : Below w.heap.size w ((w.alloc (.cells #[.int .i64 autos, .slice As I.ses.length cs, .slice Ar nr cr, .slice Ag I.groups.length cg] 26)).alloc (.cells #[.string g] 9)) := hb1.trans ((alloc_lay _ _).1.mono hb1.size)
  have i0 := alloc_keep (box_cell w #[.int .i64 autos, .slice As I.ses.length cs, .slice Ar nr cr, .slice Ag I.groups.length cg] 26 0 (u := .int .i64 autos) rfl) (.cells #[.string g] 9)
  have i1 := alloc_keep (box_cell w #[.int .i64 autos, .slice As I.ses.length cs, .slice Ar nr cr, .slice Ag I.groups.length cg] 26 1 (u := .slice As I.ses.length cs) rfl) (.cells #[.string g] 9)
  have i2 := alloc_keep (box_cell w #[.int .i64 autos, .slice As I.ses.length cs, .slice Ar nr cr, .slice Ag I.groups.length cg] 26 2 (u := .slice Ar nr cr) rfl) (.cells #[.string g] 9)
  have i3 := alloc_keep (box_cell w #[.int .i64 autos, .slice As I.ses.length cs, .slice Ar nr cr, .slice Ag I.groups.length cg] 26 3 (u := .slice Ag I.groups.length cg) rfl) (.cells #[.string g] 9)
  have m0 : ((w.alloc (.cells #[.int .i64 autos, .slice As I.ses.length cs, .slice Ar nr cr, .slice Ag I.groups.length cg] 26)).alloc (.cells #[.string g] 9)).cell? ⟨w.heap.size + 1, 0, none⟩ = some (.string g) := by
    have := box_cell (w.alloc (.cells #[.int .i64 autos, .slice As I.ses.length cs, .slice Ar nr cr, .slice Ag I.groups.length cg] 26)) #[.string g] 9 0 (u := .string g) rfl
    rwa [show (w.alloc (.cells #[.int .i64 autos, .slice As I.ses.length cs, .slice Ar nr cr, .slice Ag I.groups.length cg] 26)).heap.size = w.heap.size + 1 by simp] at this
  have HI := Lib.hid (hI.below (hb2.mono hB))
  have HM := Lib.hid hM
  clear hI hb1 hM
  go_enter Tryz.func22, Tryz.ntmps22
  go_wp2_with fail
  generalize (w.alloc (.cells #[.int .i64 autos, .slice As I.ses.length cs, .slice Ar nr cr, .slice Ag I.groups.length cg] 26)).alloc (.cells #[.string g] 9) = w2 at *
  have hl1 := World.block_lt_of_cell? w2 _ m0
  refine (gathered_any autos _ _ _ I w2 B HI.out (Nat.le_trans hB hb2.size) hok.ses hok.subs hok.client 56 #[.pointer (some ⟨w.heap.size + 1, 0, none⟩)] (enters_of Tryz.func56 (by kernel_rfl) rfl) (fun a => mt a.1) (fun S hS a ha W hW => couldIs_any a.1 g a.2 (mt a.1) (w.heap.size + 1) W (HM.out S hS a ha) ((hW.cell (p := ⟨w.heap.size + 1, 0, none⟩) hl1).trans m0))).mono ?_
  rintro e w3 ⟨v, es, rfl, hes, hown, hb3⟩
  go_wp2
  go_ret
  exact ⟨v, es, rfl, hes, owns_mono hown hb2.size, hb2.trans (hb3.mono hb2.size)⟩
end Go.Proofs.YtjeafniglnnkhaaGreatDoor
