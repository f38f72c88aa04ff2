/- Walk: audit.Faults. -/
import Derived.Test.YtjeafniglnnkhaaGreatDoorHF9
import Derived.Test.YtjeafniglnnkhaaGreatDoorHN2
import Derived.Test.YtjeafniglnnkhaaGreatDoorHK5
namespace Go.Proofs.YtjeafniglnnkhaaGreatDoor
open Go.RowKit Go.Maps Go.BigFrame
attribute [local go_sem ↓] Go.wp_at_zero Go.wp_at_succ

structure FSes where
  client : ByteArray
  subs : List (ByteArray × Int)
  inbox : List Int

structure FSesCells (w : World) (B : Nat) (l : List FSes) (i : Nat) (cs : List Value) : Prop where
  lt : i < l.length
  rest : ∃ (As : Option Addr) (c : Nat) (Ai : Option Addr) (ci : Nat), cs = [.string l[i].client, .slice As l[i].subs.length c, .int .i64 0, .slice none 0 0, .slice none 0 0, .slice Ai l[i].inbox.length ci] ∧
    IsRows w B 2 (.slice As l[i].subs.length c) l[i].subs.length (AskCells l[i].subs) ∧ IsRows w B 1 (.slice Ai l[i].inbox.length ci) l[i].inbox.length (IntCells l[i].inbox)

theorem FSesCells.below {w w' : World} {B : Nat} {l : List FSes} {i : Nat} {cs : List Value} (h : FSesCells w B l i cs) (hb : Below B w w') : FSesCells w' B l i cs := by
  obtain ⟨h1, As, c, Ai, ci, h2, h3, h4⟩ := h
  exact ⟨h1, As, c, Ai, ci, h2, h3.below hb (fun _ _ h => h), h4.below hb (fun _ _ h => h)⟩

structure SesFine (s : FSes) : Prop where
  check : checkS s.client = (0, 0)
  name : s.client.toList.isEmpty = false
  subs : SubsFine s.subs
  inbox : ∀ n ∈ s.inbox, 1 ≤ n ∧ n ≤ 65535
  len : s.subs.length ≤ 1000 ∧ s.inbox.length ≤ 1000

def sesBad (l : List FSes) (i : Nat) (h : i < l.length) : Bool := if h0 : 0 < i then !Op.bytesLess (l[i - 1]'(by omega)).client.toList l[i].client.toList else false
def sesFault (l : List FSes) (i : Nat) : Option Int := if h : i < l.length then inbO (if sesBad l i h then some 210 else none) l[i].inbox l[i].inbox.length else none
def sesFaults (l : List FSes) (k : Nat) : List (Int × Int) := (List.range k).flatMap fun (i : Nat) => faultsAt (i : Int) (sesFault l i)
theorem sesFaults_succ (l : List FSes) (k : Nat) : sesFaults l (k + 1) = sesFaults l k ++ faultsAt k (sesFault l k) := by
  unfold sesFaults
  rw [List.range_succ, List.flatMap_append]
  simp only [List.flatMap_cons, List.flatMap_nil, List.append_nil]
theorem faultsAt_le (a : Int) (o : Option Int) : (faultsAt a o).length ≤ 1 := by cases o <;> simp [faultsAt]
theorem sesFaults_le (l : List FSes) : ∀ k, (sesFaults l k).length ≤ k
  | 0 => by simp [sesFaults]
  | k + 1 => by
    rw [sesFaults_succ, List.length_append]
    have := sesFaults_le l k
    have := faultsAt_le k (sesFault l k)
    omega
theorem flatFa_one (l : List (Int × Int)) : ∀ u ∈ l.flatMap encFa, u.oneCell' = true := fun u hu => by
  obtain ⟨a, _, h⟩ := List.mem_flatMap.1 hu
  simp [encFa] at h
  rcases h with rfl | rfl <;> rfl

theorem fses_at {w : World} {B : Nat} {As : Option Addr} {c : Nat} {l : List FSes} (h : IsRows w B 6 (.slice As l.length c) l.length (FSesCells w B l)) {k : Nat} (hk : k < l.length) :
    ∃ b o, As = some ⟨b, o, none⟩ ∧ b < B ∧ ∃ (A1 : Option Addr) (c1 : Nat) (A2 : Option Addr) (c2 : Nat), w.cell? ⟨b, o + k * 6, none⟩ = some (.string l[k].client) ∧ w.cell? ⟨b, o + k * 6 + 1, none⟩ = some (.slice A1 l[k].subs.length c1) ∧
      w.cell? ⟨b, o + k * 6 + 2, none⟩ = some (.int .i64 0) ∧ w.cell? ⟨b, o + k * 6 + 3, none⟩ = some (.slice none 0 0) ∧ w.cell? ⟨b, o + k * 6 + 4, none⟩ = some (.slice none 0 0) ∧ w.cell? ⟨b, o + k * 6 + 5, none⟩ = some (.slice A2 l[k].inbox.length c2) ∧
      IsRows w B 2 (.slice A1 l[k].subs.length c1) l[k].subs.length (AskCells l[k].subs) ∧ IsRows w B 1 (.slice A2 l[k].inbox.length c2) l[k].inbox.length (IntCells l[k].inbox) := by
  obtain ⟨A', c', e1, _, _, hA⟩ := h
  cases e1
  obtain ⟨b, o, rfl, hb, hcell⟩ := hA (by omega)
  obtain ⟨cs, ⟨_, A1, c1, A2, c2, rfl, r1, r2⟩, hcs⟩ := hcell k hk
  exact ⟨b, o, rfl, hb, A1, c1, A2, c2, hcs 0 _ rfl, hcs 1 _ rfl, hcs 2 _ rfl, hcs 3 _ rfl, hcs 4 _ rfl, hcs 5 _ rfl, r1, r2⟩

theorem grown_drew {w w' : World} {r : Option Nat} (h : w.drew.grownBy w' r) : w.grownBy w' r := ⟨h.os, h.tape, h.output, h.size, h.block⟩
theorem owns_up {w w' : World} {base : Nat} {e : TypeId} {size : Nat} {v : Value} {n : Nat} {xs : List Value} {k : Nat} (h : w.ownsRow base e size v n xs) (hg : w.grownBy w' (some k)) (hk : w.heap.size ≤ k) : w'.ownsRow base e size v n xs :=
  h.kept hg (by
    cases hv : v.ownBlock with
    | none => exact .inl rfl
    | some j =>
      right
      intro e
      have := h.lt j hv
      injection e with e
      omega)
theorem grown_of_below {w w' : World} {B k : Nat} (hb : Below B w w') (hg : B ≤ w.heap.size) (hk : ∀ j, B ≤ j → j < w.heap.size → j ≠ k → w'.heap[j]? = w.heap[j]?) : w.grownBy w' (some k) :=
  ⟨hb.os, hb.tape, hb.output, hb.size, fun j hj hne => if h : j < B then hb.block j h else hk j (by omega) hj (fun e => hne (by rw [e]))⟩

theorem FirstHas.below {w w' : World} {bs os : Nat} {f : ByteArray} (h : FirstHas w bs os f) (hb : Below w.heap.size w w') : FirstHas w' bs os f := by
  obtain ⟨cl, q, last, b, o, n, c, A2, A3, A4, n2, c2, n3, c3, n4, c4, h0, a0, a1, a2, a3, a4, a5, x0, x1⟩ := h
  have hl := World.block_lt_of_cell? _ _ a0
  have hx := World.block_lt_of_cell? _ _ x0
  have k : ∀ j u, w.cell? ⟨bs, j, none⟩ = some u → w'.cell? ⟨bs, j, none⟩ = some u := fun j u hu => (hb.cell (p := ⟨bs, j, none⟩) hl).trans hu
  have k' : ∀ j u, w.cell? ⟨b, j, none⟩ = some u → w'.cell? ⟨b, j, none⟩ = some u := fun j u hu => (hb.cell (p := ⟨b, j, none⟩) hx).trans hu
  exact ⟨cl, q, last, b, o, n, c, A2, A3, A4, n2, c2, n3, c3, n4, c4, h0, k _ _ a0, k _ _ a1, k _ _ a2, k _ _ a3, k _ _ a4, k _ _ a5, k' _ _ x0, k' _ _ x1⟩

structure FCells (w : World) (b : Nat) (s : FSes) (A1 : Option Addr) (c1 : Nat) (A2 : Option Addr) (c2 : Nat) : Prop where
  g0 : w.cell? ⟨b, 0, none⟩ = some (.string s.client)
  g1 : w.cell? ⟨b, 1, none⟩ = some (.slice A1 s.subs.length c1)
  g2 : w.cell? ⟨b, 2, none⟩ = some (.int .i64 0)
  g3 : w.cell? ⟨b, 3, none⟩ = some (.slice none 0 0)
  g4 : w.cell? ⟨b, 4, none⟩ = some (.slice none 0 0)
  g5 : w.cell? ⟨b, 5, none⟩ = some (.slice A2 s.inbox.length c2)
theorem FCells.grown {w w' : World} {b m : Nat} {s : FSes} {A1 A2 : Option Addr} {c1 c2 : Nat} (h : FCells w b s A1 c1 A2 c2) (hg : w.grownBy w' (some m)) (hb : b < w.heap.size) (hne : b ≠ m) : FCells w' b s A1 c1 A2 c2 := by
  have k := hg.block b hb (fun e => hne (by injection e))
  exact ⟨(World.cell?_of_block (a := ⟨b, 0, none⟩) k).trans h.g0, (World.cell?_of_block (a := ⟨b, 1, none⟩) k).trans h.g1, (World.cell?_of_block (a := ⟨b, 2, none⟩) k).trans h.g2, (World.cell?_of_block (a := ⟨b, 3, none⟩) k).trans h.g3, (World.cell?_of_block (a := ⟨b, 4, none⟩) k).trans h.g4, (World.cell?_of_block (a := ⟨b, 5, none⟩) k).trans h.g5⟩
theorem fcells_box (w : World) (s : FSes) (A1 : Option Addr) (c1 : Nat) (A2 : Option Addr) (c2 : Nat) : FCells (w.alloc (.cells #[.string s.client, .slice A1 s.subs.length c1, .int .i64 0, .slice none 0 0, .slice none 0 0, .slice A2 s.inbox.length c2] 47)) w.heap.size s A1 c1 A2 c2 :=
  ⟨box_cell w _ 47 0 rfl, box_cell w _ 47 1 rfl, box_cell w _ 47 2 rfl, box_cell w _ 47 3 rfl, box_cell w _ 47 4 rfl, box_cell w _ 47 5 rfl⟩

/-- A group of the image that is no fault: its key a name, its filter a shared one that the first session has. -/
structure GroupFine (w : World) (B : Nat) (As : Option Addr) (vg : Value) (l : List FSes) : Prop where
  ex : ∃ (bs os bg og cg : Nat) (f key : ByteArray), vg = .slice (some ⟨bg, og, none⟩) 1 cg ∧ bg < B ∧ w.cell? ⟨bg, og, none⟩ = some (.string f) ∧ w.cell? ⟨bg, og + 1, none⟩ = some (.string key) ∧ checkS key = (0, 0) ∧ key.toList.isEmpty = false ∧
    f.size ≤ 1000000 ∧ (sharedS f).isSome = true ∧ As = some ⟨bs, os, none⟩ ∧ 0 < l.length ∧ FirstHas w bs os f

/-- A retained message that is a fault: without a payload. -/
structure MsgBad (w : World) (B : Nat) (vr : Value) : Prop where
  ex : ∃ (br or_ cr : Nat) (t : ByteArray), vr = .slice (some ⟨br, or_, none⟩) 1 cr ∧ br < B ∧ w.cell? ⟨br, or_, none⟩ = some (.string t) ∧ w.cell? ⟨br, or_ + 1, none⟩ = some (.slice none 0 0) ∧ w.cell? ⟨br, or_ + 2, none⟩ = some (.int .i64 0) ∧ w.cell? ⟨br, or_ + 3, none⟩ = some (.bool true) ∧
    t.size ≤ 1000000 ∧ topicS t = 0

/-- What is asked of the retained messages and the groups, and what they add. -/
def RestIs (w : World) (B : Nat) (As : Option Addr) (vr vg : Value) (l : List FSes) (E : List (Int × Int)) : Prop :=
  (vr = .slice none 0 0 ∧ vg = .slice none 0 0 ∧ E = []) ∨ (vr = .slice none 0 0 ∧ GroupFine w B As vg l ∧ E = []) ∨ (MsgBad w B vr ∧ vg = .slice none 0 0 ∧ E = [((l.length : Int), 213)])

set_option maxRecDepth 100000 in
set_option maxHeartbeats 4000000 in
theorem faults_any (autos : Int) (As : Option Addr) (cs : Nat) (vr vg : Value) (l : List FSes) (E : List (Int × Int)) (w : World) (B : Nat) (hs : IsRows w B 6 (.slice As l.length cs) l.length (FSesCells w B l)) (hB : B ≤ w.heap.size) (hl : l.length ≤ 1000) (hf : ∀ s ∈ l, SesFine s) (hrest : RestIs w B As vr vg l E) :
    Calls Tryz.prog 19 #[.agg #[.int .i64 autos, .slice As l.length cs, vr, vg]] w fun e w' => ∃ v, e = .returned v ∧ w'.ownsRow w.heap.size 75 2 v (sesFaults l l.length ++ E).length ((sesFaults l l.length ++ E).flatMap encFa) ∧ Below w.heap.size w w' := by
  have i0 := box_cell w #[.int .i64 autos, .slice As l.length cs, vr, vg] 26 0 (u := .int .i64 autos) rfl
  have i1 := box_cell w #[.int .i64 autos, .slice As l.length cs, vr, vg] 26 1 (u := .slice As l.length cs) rfl
  have i2 := box_cell w #[.int .i64 autos, .slice As l.length cs, vr, vg] 26 2 (u := vr) rfl
  have i3 := box_cell w #[.int .i64 autos, .slice As l.length cs, vr, vg] 26 3 (u := vg) rfl
  have hb0 : Below w.heap.size w (w.alloc (.cells #[.int .i64 autos, .slice As l.length cs, vr, vg] 26)) := (Below.refl _ _).alloc (Nat.le_refl _) _
  have hsz : w.heap.size < (w.alloc (.cells #[.int .i64 autos, .slice As l.length cs, vr, vg] 26)).heap.size := by simp
  have HS := Lib.hid hs
  have HRS := Lib.hid hrest
  clear hs hrest
  go_enter Tryz.func19, Tryz.ntmps19
  go_wp2_with fail
  generalize w.alloc (.cells #[.int .i64 autos, .slice As l.length cs, vr, vg] 26) = w1 at *
  go_loopw [3, 16] (fun v i wr => ∃ k : Nat, i = .int .i64 k ∧ k ≤ l.length ∧ wr.ownsRow w1.heap.size 75 2 v (sesFaults l k).length ((sesFaults l k).flatMap encFa) ∧ Below w1.heap.size w1 wr) (fun _ i _ => l.length - (intOf i).toNat)
  case atStart => exact ⟨0, rfl, by omega, World.ownsRow_nil _ w1.heap.size 75 2, Below.refl _ _⟩
  case round =>
    obtain ⟨k, rfl, hk, hrow, hbr⟩ := hrel
    by_cases hlt : k < l.length
    · have hwr := hbr.size
      have hb01 := (hb0.mono hB).trans (hbr.mono (show B ≤ w1.heap.size by omega))
      have hS := HS.out.below hb01 (fun _ _ h => h.below hb01)
      obtain ⟨b, o, rfl, hb, A1, c1, A2, c2, g0, g1, g2, g3, g4, g5, r1, r2⟩ := fses_at hS hlt
      have i1r := (hbr.cell (p := ⟨w.heap.size, 1, none⟩) hsz).trans i1
      have hfk := hf _ (List.getElem_mem hlt)
      have hmm := @run_makeMap Tryz.prog
      have hX := fcells_box wr l[k] A1 c1 A2 c2
      have hbx : Below wr.heap.size wr (wr.alloc (.cells #[.string l[k].client, .slice A1 l[k].subs.length c1, .int .i64 0, .slice none 0 0, .slice none 0 0, .slice A2 l[k].inbox.length c2] 47)) := (Below.refl _ _).alloc (Nat.le_refl _) _
      have hzx : (wr.alloc (.cells #[.string l[k].client, .slice A1 l[k].subs.length c1, .int .i64 0, .slice none 0 0, .slice none 0 0, .slice A2 l[k].inbox.length c2] 47)).heap.size = wr.heap.size + 1 := by simp
      have HZX := Lib.hid hzx
      clear i0 i1 i2 i3
      go_upto_region 6 with (go_at_call 1000; fail)
      have hFm : Found ((wr.alloc (.cells #[.string l[k].client, .slice A1 l[k].subs.length c1, .int .i64 0, .slice none 0 0, .slice none 0 0, .slice A2 l[k].inbox.length c2] 47)).alloc (.map #[] 0)) (wr.heap.size + 1) none 0 := by rw [← hzx]; exact Found.made _
      have hb3 : Below wr.heap.size wr ((wr.alloc (.cells #[.string l[k].client, .slice A1 l[k].subs.length c1, .int .i64 0, .slice none 0 0, .slice none 0 0, .slice A2 l[k].inbox.length c2] 47)).alloc (.map #[] 0)) := hbx.alloc (by rw [hzx]; omega) _
      have hX3 := hX.grown (grown_alloc _ (.map #[] 0) (some (wr.heap.size + 1))) (by rw [hzx]; omega) (by omega)
      have hz3 : ((wr.alloc (.cells #[.string l[k].client, .slice A1 l[k].subs.length c1, .int .i64 0, .slice none 0 0, .slice none 0 0, .slice A2 l[k].inbox.length c2] 47)).alloc (.map #[] 0)).heap.size = wr.heap.size + 2 := by simp
      have HZ3 := Lib.hid hz3
      have hS3 := HS.out.below ((hb01.trans (hb3.mono (by omega)))) (fun _ _ h => h.below ((hb01.trans (hb3.mono (by omega)))))
      have i1' := (hb3.cell (p := ⟨w.heap.size, 1, none⟩) (World.block_lt_of_cell? _ _ i1r)).trans i1r
      have HR1 := Lib.hid (r1.below (hb3.mono (show B ≤ wr.heap.size by omega)) (fun _ _ h => h))
      have HR2 := Lib.hid (r2.below (hb3.mono (show B ≤ wr.heap.size by omega)) (fun _ _ h => h))
      clear hzx HZX hX hbx g0 g1 g2 g3 g4 g5 r1 r2 hS i1r hz3
      generalize (wr.alloc (.cells #[.string l[k].client, .slice A1 l[k].subs.length c1, .int .i64 0, .slice none 0 0, .slice none 0 0, .slice A2 l[k].inbox.length c2] 47)).alloc (.map #[] 0) = w3 at *
      have HS3 := Lib.hid hS3
      have HX3 := Lib.hid hX3
      have HHF := Lib.hid hf
      clear hf
      go_cut [] from 22 to 38 (fun wc => Found wc (wr.heap.size + 1) (if sesBad l k hlt then some 210 else none) 1 ∧ w3.grownBy wc (some (wr.heap.size + 1)))
      case first =>
        by_cases h0 : k = 0
        · have hgt : decide ((0 : Int) < (k : Int)) = false := by simp; omega
          have HB := Lib.hid (show sesBad l k hlt = false by unfold sesBad; rw [dif_neg (by omega)])
          have hgn : decide (0 < k) = false := by simp [h0]
          clear hS3 hX3 hmm h0
          refine wp_region_quiet_tail 15 (by kernel_rfl) (by kernel_rfl) w3.drew rfl ?_
          simp only [List.take_succ_cons, List.take_zero, List.drop_succ_cons, List.drop_zero]
          repeat (go_big_quiet_step (fail))
          refine wpQuiet_nil ?_
          go_wp2_with fail
          refine (note_any _ 0 210 none false _ (show Found w3.drew _ none 0 from hFm) (by simp) (by decide) (by decide) (by decide)).mono ?_
          rintro e w4 ⟨rfl, hF4, hg4⟩
          go_wp2_with fail
          go_meet
          exact ⟨by rw [HB.out]; exact hF4, grown_drew hg4⟩
        · obtain ⟨p, rfl⟩ : ∃ p, k = p + 1 := ⟨k - 1, by omega⟩
          obtain ⟨_, _, ee, _, _, _, _, _, p0, _⟩ := fses_at HS3.out (k := p) (by omega)
          cases ee
          have x0 := HX3.out.g0
          have hgt : decide ((0 : Int) < ((p : Int) + 1)) = true := decide_eq_true (by omega)
          have hpl : (p : Int) < (l.length : Int) := by omega
          have HB := Lib.hid (show sesBad l (p + 1) hlt = !Op.bytesLess l[p].client.toList l[p + 1].client.toList by unfold sesBad; rw [dif_pos (by omega)]; rfl)
          generalize l[p + 1].client = cc at *
          generalize l[p].client = cp at *
          clear hS3 hX3 hmm h0
          cases hbl : Op.bytesLess cp.toList cc.toList
          · refine wp_region_quiet_tail 15 (by kernel_rfl) (by kernel_rfl) w3.drew rfl ?_
            simp only [List.take_succ_cons, List.take_zero, List.drop_succ_cons, List.drop_zero]
            repeat (go_big_quiet_step (fail))
            refine wpQuiet_nil ?_
            go_wp2_with fail
            refine (note_any _ 0 210 none true _ (show Found w3.drew _ none 0 from hFm) (by simp) (by decide) (by decide) (by decide)).mono ?_
            rintro e w4 ⟨rfl, hF4, hg4⟩
            go_wp2_with fail
            go_meet
            exact ⟨by rw [HB.out, hbl]; exact hF4, grown_drew hg4⟩
          · refine wp_region_quiet_tail 15 (by kernel_rfl) (by kernel_rfl) w3.drew rfl ?_
            simp only [List.take_succ_cons, List.take_zero, List.drop_succ_cons, List.drop_zero]
            repeat (go_big_quiet_step (fail))
            refine wpQuiet_nil ?_
            go_wp2_with fail
            refine (note_any _ 0 210 none false _ (show Found w3.drew _ none 0 from hFm) (by simp) (by decide) (by decide) (by decide)).mono ?_
            rintro e w4 ⟨rfl, hF4, hg4⟩
            go_wp2_with fail
            go_meet
            exact ⟨by rw [HB.out, hbl]; exact hF4, grown_drew hg4⟩
      case rest =>
        obtain ⟨hFc, hgc⟩ := hcut
        have hz3 := HZ3.out
        have hXc := hX3.grown hgc (by omega) (by omega)
        have HXc := Lib.hid hXc
        obtain ⟨q0, q1, q2, q3, q4, q5⟩ := hXc
        have q1c := Lib.hid (World.block_lt_of_cell? _ _ q0)
        have hR1 := HR1.out.grown hgc (by omega) (by omega)
        have hR2 := HR2.out.grown hgc (by omega) (by omega)
        have hszc := hgc.size
        have hsf : sesFault l k = inbO (if sesBad l k hlt then some 210 else none) l[k].inbox l[k].inbox.length := by unfold sesFault; rw [dif_pos hlt]
        have ho2 : (if sesBad l k hlt then some (210 : Int) else none) = none ∨ (if sesBad l k hlt then some (210 : Int) else none) = some 210 := by cases sesBad l k hlt <;> simp
        have HSF := Lib.hid hsf
        have hz3' : wr.heap.size + 1 < w3.heap.size := by omega
        clear hsf hz3 hS3 hX3 hmm
        go_wp2_with fail
        refine (session_found (wr.heap.size + 1) 1 _ l[k].client A1 c1 (.slice A2 l[k].inbox.length c2) l[k].subs l[k].inbox B wc hFc (by decide) ho2 hR1 hR2 (by omega) (by omega) hfk.len.1 hfk.len.2 hfk.check hfk.name hfk.subs hfk.inbox).mono ?_
        rintro e w5 ⟨rfl, hF5, hg5⟩
        have HG := Lib.hid (grown_trans (grown_below hb3 (some (wr.heap.size + 1))) (grown_trans hgc hg5))
        have hrow5 := owns_up hrow HG.out (by omega)
        have hb15 := Lib.hid (hbr.grown HG.out hwr (fun j hj => by cases hj; omega))
        have hrl : (sesFaults l k).length ≤ k := sesFaults_le l k
        rw [← HSF.out] at hF5
        have HF5 := Lib.hid hF5
        have hlen1 := hfk.len
        clear q0 q1 q2 q3 q4 q5 hgc hg5 hF5 hFc hFm hb3 hR1 hR2 i1' ho2 hszc
        go_wp2_with fail
        refine (told_found (wr.heap.size + 1) _ _ k w5 HF5.out (by omega)).mono ?_
        rintro e w6 ⟨v6, rfl, hrow6, hb6⟩
        have hrow5' := owns_below hrow5 hb6
        have hb16 := hb15.out.trans (hb6.mono hb15.out.size)
        have hw16 := hb16.size
        have hfl := faultsAt_le k (sesFault l k)
        have hfo := flatFa_one (faultsAt k (sesFault l k))
        have hmx : (sesFaults l k).length + (faultsAt k (sesFault l k)).length ≤ maxLen := by unfold maxLen; omega
        have hmx2 : ((sesFaults l k).length + (faultsAt k (sesFault l k)).length) * 16 ≤ 140737488355328 := by omega
        have HSS := Lib.hid (sesFaults_succ l k)
        obtain ⟨i0, hi, hz0, hz1, hz2⟩ := info_parts info75
        clear hrow5 hrow hb6
        go_wp2_with (first | (at_builtin; refine wpList_append_row rfl _ _ 63 rfl w1.heap.size 75 i0 _ 2 16 Tryz.underlying63 hi hz0 hz1 hz2 rfl (by decide) _ _ _ rfl hrow5' _ _ _ _ rfl hrow6 hfo hmx hmx2 hw16 ?_; intro v7 w7 hrow7 hb7 hg7; go_frame))
        go_roundw
        case rel => exact ⟨k + 1, by go_num, by omega, by rw [HSS.out, List.length_append, List.flatMap_append]; exact hrow7, hb16.trans hb7⟩
        case measure => simp [intOf]; omega
    · have hke : k = l.length := by omega
      subst hke
      have hwr := hbr.size
      have j0 := (hbr.cell (p := ⟨w.heap.size, 0, none⟩) hsz).trans i0
      have j1 := (hbr.cell (p := ⟨w.heap.size, 1, none⟩) hsz).trans i1
      have j2 := (hbr.cell (p := ⟨w.heap.size, 2, none⟩) hsz).trans i2
      have j3 := (hbr.cell (p := ⟨w.heap.size, 3, none⟩) hsz).trans i3
      clear i0 i1 i2 i3
      rcases HRS.out with ⟨rfl, rfl, rfl⟩ | ⟨rfl, ⟨bs, os, bg, og, cg, f, key, rfl, hbg, f0, f1, hkc, hke, hfz, hsh, rfl, hl0, hfh⟩, rfl⟩ | ⟨⟨br, or_, cr, t, rfl, hbr2, m0, m1, m2, m3, htz, htop⟩, rfl, rfl⟩
      · go_wp2_with fail
        refine wp_loop_rounds 1 ?_
        rw [rounds_succ]
        go_wp2_with fail
        refine wp_loop_rounds 1 ?_
        rw [rounds_succ]
        go_wp2
        go_ret
        exact ⟨_, rfl, by rw [List.append_nil]; exact owns_mono hrow (by omega), hb0.trans (hbr.mono (by omega))⟩
      · have hbB := (hb0.mono hB).trans (hbr.mono (show B ≤ w1.heap.size by omega))
        have y0 := (hbB.cell (p := ⟨bg, og, none⟩) hbg).trans f0
        have y1 := (hbB.cell (p := ⟨bg, og + 1, none⟩) hbg).trans f1
        have hmm := @run_makeMap Tryz.prog
        have s0 := alloc_keep (box_cell wr #[.string f, .string key] 51 0 (u := .string f) rfl) (.map #[] 0)
        have s1 := alloc_keep (box_cell wr #[.string f, .string key] 51 1 (u := .string key) rfl) (.map #[] 0)
        have hzx : (wr.alloc (.cells #[.string f, .string key] 51)).heap.size = wr.heap.size + 1 := by simp
        have hFm : Found ((wr.alloc (.cells #[.string f, .string key] 51)).alloc (.map #[] 0)) (wr.heap.size + 1) none 0 := by rw [← hzx]; exact Found.made _
        have hb3 : Below wr.heap.size wr ((wr.alloc (.cells #[.string f, .string key] 51)).alloc (.map #[] 0)) := ((Below.refl _ _).alloc (Nat.le_refl _) _).alloc (by rw [hzx]; omega) _
        have hwl := World.block_lt_of_cell? _ _ j0
        have k0 := (hb3.cell (p := ⟨w.heap.size, 0, none⟩) hwl).trans j0
        have k1 := (hb3.cell (p := ⟨w.heap.size, 1, none⟩) hwl).trans j1
        have k2 := (hb3.cell (p := ⟨w.heap.size, 2, none⟩) hwl).trans j2
        have hz3 : wr.heap.size + 1 < ((wr.alloc (.cells #[.string f, .string key] 51)).alloc (.map #[] 0)).heap.size := by simp
        have HMM := Lib.hid hmm
        clear f0 f1 hzx hmm
        go_wp2_with fail
        refine wp_loop_rounds 1 ?_
        rw [rounds_succ]
        go_wp2_with fail
        refine wp_loop_rounds 2 ?_
        rw [rounds_succ]
        have hmm := HMM.out
        go_wp2_with fail
        generalize (wr.alloc (.cells #[.string f, .string key] 51)).alloc (.map #[] 0) = w3 at *
        clear hmm HMM y0 y1 j0 j1 j2 j3
        refine wp_region_quiet_tail 16 (by kernel_rfl) (by kernel_rfl) w3.drew rfl ?_
        simp only [List.take_succ_cons, List.take_zero, List.drop_succ_cons, List.drop_zero]
        repeat (go_big_quiet_step (fail))
        refine wpQuiet_nil ?_
        go_wp2_with fail
        refine (note_no _ _ _).mono ?_
        rintro e w' ⟨rfl, hw⟩
        rw [hw]
        clear hw w'
        have hb3d : Below wr.heap.size wr w3.drew := ⟨hb3.os, hb3.tape, hb3.output, hb3.size, hb3.block⟩
        have hFd : Found w3.drew (wr.heap.size + 1) none 0 := hFm
        have hz3d : wr.heap.size + 1 < w3.drew.heap.size := hz3
        have s0d : w3.drew.cell? ⟨wr.heap.size, 0, none⟩ = some (.string f) := s0
        have s1d : w3.drew.cell? ⟨wr.heap.size, 1, none⟩ = some (.string key) := s1
        have k0d : w3.drew.cell? ⟨w.heap.size, 0, none⟩ = some (.int .i64 autos) := k0
        have k1d : w3.drew.cell? ⟨w.heap.size, 1, none⟩ = some (.slice (some ⟨bs, os, none⟩) l.length cs) := k1
        have k2d : w3.drew.cell? ⟨w.heap.size, 2, none⟩ = some (.slice none 0 0) := k2
        clear hb3 hFm hz3 s0 s1 k0 k1 k2
        generalize w3.drew = w4 at *
        go_wp2_with fail
        refine (key_name key autos w4 hkc hke).mono ?_
        rintro e w5 ⟨rfl, hb5⟩
        have hz4 : wr.heap.size < w4.heap.size := by omega
        have hzw : w.heap.size < w4.heap.size := by omega
        have s0 := (hb5.cell (p := ⟨wr.heap.size, 0, none⟩) hz4).trans s0d
        have k1 := (hb5.cell (p := ⟨w.heap.size, 1, none⟩) hzw).trans k1d
        have k2 := (hb5.cell (p := ⟨w.heap.size, 2, none⟩) hzw).trans k2d
        have hF5 := hFd.below hb5
        have hb35 := hb3d.trans (hb5.mono (by omega))
        clear s0d s1d k0d k1d k2d hFd hb3d hb5
        go_wp2_with fail
        refine (note_no _ _ _).mono ?_
        rintro e w' ⟨rfl, hw⟩
        rw [hw]
        clear hw w'
        have HSH := Lib.hid (show Calls Tryz.prog 51 #[.string f] w5 fun e w' => e = .returned (.bool true) ∧ Below w5.heap.size w5 w' by have h := isShared_any f w5 hfz; rw [hsh] at h; exact h)
        clear hsh
        go_wp2_with fail
        refine HSH.out.mono ?_
        rintro e w6 ⟨rfl, hb6⟩
        have hzw5 : w.heap.size < w5.heap.size := World.block_lt_of_cell? _ _ k1
        have hzr5 : wr.heap.size < w5.heap.size := World.block_lt_of_cell? _ _ s0
        have s0' := (hb6.cell (p := ⟨wr.heap.size, 0, none⟩) hzr5).trans s0
        have k1' := (hb6.cell (p := ⟨w.heap.size, 1, none⟩) hzw5).trans k1
        have k2' := (hb6.cell (p := ⟨w.heap.size, 2, none⟩) hzw5).trans k2
        have hF6 := hF5.below hb6
        have hb36 := hb35.trans (hb6.mono (by omega))
        have hbw6 := (hb0.trans (hbr.mono (by omega))).trans (hb36.mono (by omega))
        have hfh6 := hfh.below hbw6
        have HC := Lib.hid (sesHas_first f bs os l.length cs wr.heap.size w6 hl0 hfh6 s0')
        clear s0 k1 k2 hF5 hb35 hb6 hfh6 HSH hfh
        go_wp2_with fail
        refine HC.out.mono ?_
        rintro e w7 ⟨rfl, hb7⟩
        have hzw6 : w.heap.size < w6.heap.size := World.block_lt_of_cell? _ _ k1'
        have k1 := (hb7.cell (p := ⟨w.heap.size, 1, none⟩) hzw6).trans k1'
        have k2 := (hb7.cell (p := ⟨w.heap.size, 2, none⟩) hzw6).trans k2'
        have hF7 := hF6.below hb7
        have hb37 := hb36.trans (hb7.mono hb36.size)
        clear HC s0' k1' k2' hF6 hb36 hb7
        go_wp2_with fail
        refine (note_no _ _ _).mono ?_
        rintro e w' ⟨rfl, hw⟩
        rw [hw]
        clear hw w'
        have hlb : (l.length : Int) ≤ 1000 := by omega
        go_wp2_with fail
        refine (told_found _ _ none _ w7 hF7 (by decide)).mono ?_
        rintro e w8 ⟨v8, rfl, hrow8, hb8⟩
        have hrow7 := owns_below hrow hb37
        have hrow8' := owns_below hrow7 hb8
        have hb18 := (hbr.trans (hb37.mono hwr)).trans (hb8.mono (by have := hbr.size; have := hb37.size; omega))
        have hw18 := hb18.size
        obtain ⟨i0, hi, hz0, hz1, hz2⟩ := info_parts info75
        have hsl := sesFaults_le l l.length
        have hmx : (sesFaults l l.length).length + 0 ≤ maxLen := by unfold maxLen; omega
        have hmx2 : ((sesFaults l l.length).length + 0) * 16 ≤ 140737488355328 := by omega
        clear hrow7 hrow hb8 hF7
        go_wp2_with (first | (at_builtin; refine wpList_append_row rfl _ _ 63 rfl w1.heap.size 75 i0 _ 2 16 Tryz.underlying63 hi hz0 hz1 hz2 rfl (by decide) _ _ _ rfl hrow8' _ _ 0 [] rfl hrow8 (by simp) hmx hmx2 hw18 ?_; intro v9 w9 hrow9 hb9 hg9; go_frame))
        rw [rounds_succ]
        go_wp2
        go_ret
        exact ⟨_, rfl, by rw [List.append_nil]; rw [List.append_nil, Nat.add_zero] at hrow9; exact owns_mono hrow9 (by omega), hb0.trans ((hb18.trans hb9).mono (by omega))⟩
      · have hbB := (hb0.mono hB).trans (hbr.mono (show B ≤ w1.heap.size by omega))
        have y0 := (hbB.cell (p := ⟨br, or_, none⟩) hbr2).trans m0
        have y1 := (hbB.cell (p := ⟨br, or_ + 1, none⟩) hbr2).trans m1
        have y2 := (hbB.cell (p := ⟨br, or_ + 2, none⟩) hbr2).trans m2
        have y3 := (hbB.cell (p := ⟨br, or_ + 3, none⟩) hbr2).trans m3
        have hmm := @run_makeMap Tryz.prog
        have s0 := alloc_keep (box_cell wr #[.string t, .slice none 0 0, .int .i64 0, .bool true] 29 0 (u := .string t) rfl) (.map #[] 0)
        have s1 := alloc_keep (box_cell wr #[.string t, .slice none 0 0, .int .i64 0, .bool true] 29 1 (u := .slice none 0 0) rfl) (.map #[] 0)
        have s2 := alloc_keep (box_cell wr #[.string t, .slice none 0 0, .int .i64 0, .bool true] 29 2 (u := .int .i64 0) rfl) (.map #[] 0)
        have hzx : (wr.alloc (.cells #[.string t, .slice none 0 0, .int .i64 0, .bool true] 29)).heap.size = wr.heap.size + 1 := by simp
        have hFm : Found ((wr.alloc (.cells #[.string t, .slice none 0 0, .int .i64 0, .bool true] 29)).alloc (.map #[] 0)) (wr.heap.size + 1) none 0 := by rw [← hzx]; exact Found.made _
        have hb3 : Below wr.heap.size wr ((wr.alloc (.cells #[.string t, .slice none 0 0, .int .i64 0, .bool true] 29)).alloc (.map #[] 0)) := ((Below.refl _ _).alloc (Nat.le_refl _) _).alloc (by rw [hzx]; omega) _
        have hwl := World.block_lt_of_cell? _ _ j0
        have k1 := (hb3.cell (p := ⟨w.heap.size, 1, none⟩) hwl).trans j1
        have k3 := (hb3.cell (p := ⟨w.heap.size, 3, none⟩) hwl).trans j3
        have hz3 : wr.heap.size + 1 < ((wr.alloc (.cells #[.string t, .slice none 0 0, .int .i64 0, .bool true] 29)).alloc (.map #[] 0)).heap.size := by simp
        clear m0 m1 m2 m3 hzx
        go_wp2_with fail
        refine wp_loop_rounds 2 ?_
        rw [rounds_succ]
        go_wp2_with fail
        generalize (wr.alloc (.cells #[.string t, .slice none 0 0, .int .i64 0, .bool true] 29)).alloc (.map #[] 0) = w3 at *
        clear hmm y0 y1 y2 y3 j0 j1 j2 j3
        refine wp_region_quiet_tail 16 (by kernel_rfl) (by kernel_rfl) w3.drew rfl ?_
        simp only [List.take_succ_cons, List.take_zero, List.drop_succ_cons, List.drop_zero]
        repeat (go_big_quiet_step (fail))
        refine wpQuiet_nil ?_
        go_wp2_with fail
        refine (note_no _ _ _).mono ?_
        rintro e w' ⟨rfl, hw⟩
        rw [hw]
        clear hw w'
        have hb3d : Below wr.heap.size wr w3.drew := ⟨hb3.os, hb3.tape, hb3.output, hb3.size, hb3.block⟩
        have hFd : Found w3.drew (wr.heap.size + 1) none 0 := hFm
        have hz3d : wr.heap.size + 1 < w3.drew.heap.size := hz3
        have s0d : w3.drew.cell? ⟨wr.heap.size, 0, none⟩ = some (.string t) := s0
        have s1d : w3.drew.cell? ⟨wr.heap.size, 1, none⟩ = some (.slice none 0 0) := s1
        have s2d : w3.drew.cell? ⟨wr.heap.size, 2, none⟩ = some (.int .i64 0) := s2
        have k1d : w3.drew.cell? ⟨w.heap.size, 1, none⟩ = some (.slice As l.length cs) := k1
        have k3d : w3.drew.cell? ⟨w.heap.size, 3, none⟩ = some (.slice none 0 0) := k3
        clear hb3 hFm hz3 s0 s1 s2 k1 k3
        generalize w3.drew = w4 at *
        have HT := Lib.hid (show Calls Tryz.prog 36 #[.string t] w4 fun e w' => e = .returned (.int .i64 0) ∧ Below w4.heap.size w4 w' by have h := topic_any t w4 htz; rw [htop] at h; exact h)
        clear htop
        go_wp2_with fail
        refine HT.out.mono ?_
        rintro e w5 ⟨rfl, hb5⟩
        have hz4 : wr.heap.size < w4.heap.size := by omega
        have hzw : w.heap.size < w4.heap.size := by omega
        have s1 := (hb5.cell (p := ⟨wr.heap.size, 1, none⟩) hz4).trans s1d
        have s2 := (hb5.cell (p := ⟨wr.heap.size, 2, none⟩) hz4).trans s2d
        have k1 := (hb5.cell (p := ⟨w.heap.size, 1, none⟩) hzw).trans k1d
        have k3 := (hb5.cell (p := ⟨w.heap.size, 3, none⟩) hzw).trans k3d
        have hF5 := hFd.below hb5
        have hb35 := hb3d.trans (hb5.mono (by omega))
        clear s0d s1d s2d k1d k3d hFd hb3d hb5 HT
        go_wp2_with fail
        refine (good_yes 0 w5 (by decide) (by decide)).mono ?_
        rintro e w' ⟨rfl, hw⟩
        rw [hw]
        clear hw w'
        go_wp2_with fail
        refine (note_any _ 0 213 none true w5 hF5 (by simp) (by decide) (by decide) (by decide)).mono ?_
        rintro e w6 ⟨rfl, hF6, hg6⟩
        have HF6 := Lib.hid (show Found w6 (wr.heap.size + 1) (some 213) 1 from hF6)
        have HG := Lib.hid (grown_trans (grown_below hb35 (some (wr.heap.size + 1))) hg6)
        have hwne : some w.heap.size ≠ some (wr.heap.size + 1) := fun e => by injection e with e; omega
        have hzw5 : w.heap.size < w5.heap.size := World.block_lt_of_cell? _ _ k1
        have k1' := (World.cell?_of_block (a := ⟨w.heap.size, 1, none⟩) (hg6.block w.heap.size hzw5 hwne)).trans k1
        have k3' := (World.cell?_of_block (a := ⟨w.heap.size, 3, none⟩) (hg6.block w.heap.size hzw5 hwne)).trans k3
        have hrow6 := owns_up hrow HG.out (by omega)
        have hb16 := hbr.grown HG.out hwr (fun j hj => by cases hj; omega)
        have hlb : (l.length : Int) ≤ 1000 := by omega
        clear s1 s2 k1 k3 hF5 hF6 hg6 hb35 hrow
        go_wp2_with fail
        refine (told_found _ _ (some 213) _ w6 HF6.out (by decide)).mono ?_
        rintro e w8 ⟨v8, rfl, hrow8, hb8⟩
        have hrow8' := owns_below hrow6 hb8
        have hb18 := hb16.trans (hb8.mono hb16.size)
        have hw18 := hb18.size
        have hzw6 : w.heap.size < w6.heap.size := World.block_lt_of_cell? _ _ k1'
        have k3 := (hb8.cell (p := ⟨w.heap.size, 3, none⟩) hzw6).trans k3'
        obtain ⟨i0, hi, hz0, hz1, hz2⟩ := info_parts info75
        have hsl := sesFaults_le l l.length
        have hmx : (sesFaults l l.length).length + 1 ≤ maxLen := by unfold maxLen; omega
        have hmx2 : ((sesFaults l l.length).length + 1) * 16 ≤ 140737488355328 := by omega
        have hrow8'' : w8.ownsRow (w6.heap.size + 1) 75 2 v8 1 [.int .i64 (l.length : Int), .int .i64 213] := by simpa [faultsAt, encFa] using hrow8
        clear hrow6 hb8 hrow8 k1' k3'
        go_wp2_with (first | (at_builtin; refine wpList_append_row rfl _ _ 63 rfl w1.heap.size 75 i0 _ 2 16 Tryz.underlying63 hi hz0 hz1 hz2 rfl (by decide) _ _ _ rfl hrow8' _ _ 1 [.int .i64 (l.length : Int), .int .i64 213] rfl hrow8'' (by intro u hu; simp at hu; rcases hu with rfl | rfl <;> rfl) hmx hmx2 hw18 ?_; intro v9 w9 hrow9 hb9 hg9; go_frame))
        have k3' := (hb9.cell (p := ⟨w.heap.size, 3, none⟩) hsz).trans k3
        rw [rounds_succ]
        go_wp2_with fail
        refine wp_loop_rounds 1 ?_
        rw [rounds_succ]
        go_wp2
        go_ret
        exact ⟨_, rfl, by rw [List.length_append, List.flatMap_append]; exact owns_mono hrow9 (by omega), hb0.trans ((hb18.trans hb9).mono (by omega))⟩
end Go.Proofs.YtjeafniglnnkhaaGreatDoor
