/- Walks: cover.outside's leaves at the second of two levels. -/
/- Walks: cover.Outside, cover.Within at two filters of two levels. -/
/- Walks: cover.Within at the filters that known asks of. -/
/- Walks: audit.shared, found.note. -/
import Derived.Test.YtjeafniglnnkhaaGreatDoorHK1
import Derived.Test.YtjeafniglnnkhaaGreatDoorHN1
namespace Go.Proofs.YtjeafniglnnkhaaGreatDoor
open Go.RowKit

/-- append of a slice without an element. -/
theorem wpList_append_zero {P : Program} {w : World} {ops : Array Oper} {rest : List Oper} {o : Oper} {a : Act} {Q : Exit → Act → World → Prop} (hgd : o.guard = none) (s x : Operand) (t : TypeId)
    (ho : o.op = .call { callee := .builtin .append, args := #[s, x], argTypes := #[t, t] }) (e : TypeId) (i : TypeInfo) (ht : P.underlying t = some (.slice e)) (hi : P.info? e = some i)
    (g k cap : Nat) (hk : k ≤ cap) (A : Option Addr) (c : Nat) (hs : a.eval s = .slice (some ⟨g, 0, none⟩) k cap) (hx : a.eval x = .slice A 0 c)
    (h : wpList P ops Q rest (a.put o.dst (.slice (some ⟨g, 0, none⟩) k cap)) w) : wpList P ops Q (o :: rest) a w := by
  refine wpList_plain hgd fun K hK => ?_
  have hr := run_append_zero (P := P) w t o.type e i ht hi g k cap hk A c
  unfold Oper.wp execOp
  simp only [ho, resolve, invoke, builtin, Sem.run_bind, Sem.run_pure, Result.andThen_ok, List.map_toArray, List.map_cons, List.map_nil, hs, hx, hr]
  exact hK _ _ h

set_option maxRecDepth 100000 in
set_option maxHeartbeats 1000000 in
theorem leaves_one (b bf o cf g3 c3 : Nat) (x y f lv : ByteArray) (w : World) (h : OutIs w b bf o cf x y) (h0 : w.cell? ⟨b, 0, none⟩ = some (.string f)) (h3 : w.cell? ⟨b, 3, none⟩ = some (.slice (some ⟨g3, 0, none⟩) 1 c3)) (hc3 : 1 ≤ c3) (hx3 : w.cell? ⟨g3, 0, none⟩ = some (.string x))
    (hj : (joinS [x, lv]).size ≤ 65535) :
    Calls Tryz.prog 139 #[.pointer (some ⟨b, 0, none⟩), .int .i64 1, .string lv, .bool true] w fun e w' => e = .returned (.tuple #[.string (joinS [x, lv]), .bool true]) ∧ Below w.heap.size w w' := by
  obtain ⟨i0, hi, hz0, hz1, hz2⟩ := info_parts info9
  have HO := Lib.hid h
  have h1 := h.f
  have hnil := World.ownsRow_nil w w.heap.size 9 1
  have hnews : ∀ j u, [Value.string x][j]? = some u → w.cell? ((⟨g3, 0, none⟩ : Addr).add j) = some u := fun j u hu => by
    cases j with
    | zero => simp at hu; subst hu; have hadd : (⟨g3, 0, none⟩ : Addr).add 0 = ⟨g3, 0, none⟩ := by unfold Addr.add; simp
              rw [hadd]; exact hx3
    | succ j => simp at hu
  clear h
  go_enter Tryz.func139, Tryz.ntmps139
  have hw0 : w.heap.size ≤ w.heap.size := Nat.le_refl _
  go_wp2_with (first
    | (at_builtin; refine wpList_append_lies _ rfl _ _ 78 rfl w.heap.size 9 i0 _ 1 16 Tryz.underlying78 hi hz0 hz1 hz2 rfl (by decide) (.slice none 0 0) 0 [] rfl hnil ⟨g3, 0, none⟩ 1 c3 [.string x] rfl rfl hnews (by intro u hu; simp at hu; subst hu; rfl) (by decide) (by decide) (by decide) hw0 _ rfl ?_; intro g cap w1 hown1 hgrow1 hat1 hlt1; have hown1' : w1.ownsRow w.heap.size 9 1 (.slice (some ⟨g, 0, none⟩) 1 cap) 1 [.string x] := hown1; have hsz1 := hgrow1.size; clear hown1 hat1 hnil)
    | (at_builtin; refine wpList_app rfl _ _ 78 rfl w.heap.size 9 i0 _ 1 16 Tryz.underlying78 hi hz0 hz1 hz2 rfl (by decide) _ 1 [.string x] rfl hown1' [.string lv] rfl rfl (by intro u hu; simp at hu; subst hu; rfl) (by decide) (by decide) hsz1 ?_; intro v2 w2 hown2 hbel2 hsz2 hdr2 hg2))
  have hb1 : Below w.heap.size w w1 := (Below.refl _ _).grown hgrow1 hw0 (fun j hj => by cases hj)
  have hb2 := hb1.trans hbel2
  have hbl := World.block_lt_of_cell? w _ h0
  have hO := HO.out
  have hbf := World.block_lt_of_cell? w _ hO.x
  have hO2 : OutIs w2 b bf o cf x y := ⟨(hb2.cell (p := ⟨b, 1, none⟩) hbl).trans hO.f, (hb2.cell (p := ⟨bf, o, none⟩) hbf).trans hO.x, (hb2.cell (p := ⟨bf, o + 1, none⟩) hbf).trans hO.y⟩
  have k0 := (hb2.cell (p := ⟨b, 0, none⟩) hbl).trans h0
  refine (rest_two b bf o cf x y w2 hO2).mono ?_
  rintro e w' ⟨rfl, hw⟩
  rw [hw]
  clear hw w'
  rcases hown2.2 with ⟨_, h2⟩ | ⟨g2, cap2, cur2, rfl, hb2', hgg2, hn2, hm2, hs2, ht2⟩
  · cases h2
  have HS := Lib.hid (IsStrs.of_owns (l := [x, lv]) hown2)
  clear hgg2 ht2 hs2 hown2 hown1' hO2 hO h1 h0 h3 hx3 hnews
  go_wp2_with (first
    | (refine wpList_append_zero rfl _ _ 78 rfl 9 i0 Tryz.underlying78 hi g2 2 cap2 hn2 none 0 rfl rfl ?_))
  have hbx : Below w2.heap.size w2 (w2.alloc (.cells #[.string f] 9)) := (Below.refl _ _).alloc (Nat.le_refl _) _
  refine (told_any _ _ false [x, lv] _ ((HS.out.below hbx).mono hbx.size) (by simp) (fun z hz => by simp at hz) (by simp) hj).mono ?_
  rintro e w3 ⟨rfl, hb3⟩
  go_wp2
  go_ret2
  exact ⟨rfl, (hb2.trans (hbx.mono hb2.size)).trans (hb3.mono (by have := hb2.size; have := hbx.size; omega))⟩
end Go.Proofs.YtjeafniglnnkhaaGreatDoor

namespace Go.Proofs.YtjeafniglnnkhaaGreatDoor
open Go.RowKit

/-- A filter of two levels, none of them the sign that goes on. -/
structure Two (f x y : ByteArray) : Prop where
  size : f.size ≤ 1000
  shared : sharedS f = none
  filter : filterS f = 0
  levels : levelsS f = [x, y]
  x35 : (x.toList == [35]) = false
  x43 : (x.toList == [43]) = false
  y35 : (y.toList == [35]) = false

theorem Two.lvs {f x y : ByteArray} (h : Two f x y) (w : World) :
    Calls Tryz.prog 80 #[.string f] w fun e w' => ∃ b o c, e = .returned (.tuple #[.slice (some ⟨b, o, none⟩) 2 c, .bool true]) ∧ b < w'.heap.size ∧ w'.cell? ⟨b, o, none⟩ = some (.string x) ∧ w'.cell? ⟨b, o + 1, none⟩ = some (.string y) ∧ Below w.heap.size w w' := by
  refine (lvs_any f w (by have := h.size; omega) h.shared h.filter).mono ?_
  rintro e w' ⟨v, rfl, hs, hb⟩
  rw [h.levels] at hs
  obtain ⟨A, c, rfl, _, hA⟩ := hs
  obtain ⟨b, o, rfl, hbl, hc⟩ := hA (by simp)
  exact ⟨b, o, c, rfl, hbl, hc 0 (by simp), hc 1 (by simp), hb⟩

theorem blk_lt' {w : World} {g : Nat} {o : Obj} (h : w.heap[g]? = some o) : g < w.heap.size := (Array.getElem?_eq_some_iff.1 h).1

theorem own_setC {w : World} {base : Nat} {e : TypeId} {size n : Nat} {v : Value} {xs : List Value} (h : w.ownsRow base e size v n xs) {p : Addr} (hne : some p.block ≠ v.ownBlock) (u : Value) : (w.setCell p u).ownsRow base e size v n xs := by
  obtain ⟨h1, h2⟩ := h
  refine ⟨h1, ?_⟩
  rcases h2 with h2 | ⟨g, cap, cur, rfl, hg, hh, r⟩
  · exact .inl h2
  · exact .inr ⟨g, cap, cur, rfl, hg, by rw [Below.heap_setCell _ _ _ _ (fun e => hne (by rw [e]; rfl))]; exact hh, r⟩
theorem blk_setC {w : World} {g : Nat} {t : TypeId} {cs : Array Value} (h : w.heap[g]? = some (.cells cs t (0, 0))) (i : Nat) (u : Value) : (w.setCell ⟨g, i, none⟩ u).heap[g]? = some (.cells (cs.setIfInBounds i u) t (0, 0)) := by
  simp [World.setCell, Array.getElem?_modify, h]

theorem sign_no {x : ByteArray} (h1 : (x.toList == [35]) = false) (h2 : (x.toList == [43]) = false) : signS x = false := by simp [signS, h1, h2]

set_option maxRecDepth 100000 in
set_option maxHeartbeats 2000000 in
theorem outside_no (f g x y r : ByteArray) (w : World) (hf : Two f x y) (hg : Two g x r) (hy : (y.toList == [43]) = true) (hr : (r.toList == [43]) = false) (hj : (joinS [x, otherS r]).size ≤ 65535) :
    Calls Tryz.prog 97 #[.string f, .string g] w fun e w' => e = .returned (.tuple #[.string (joinS [x, otherS r]), .bool true]) ∧ Below w.heap.size w w' := by
  obtain ⟨i0, hi, hz0, hz1, hz2⟩ := info_parts info9
  have HF := fun W => Lib.hid (hf.lvs W)
  have HG := fun W => Lib.hid (hg.lvs W)
  have hx35 := hf.x35
  have hx43 := hf.x43
  have hy35 := hf.y35
  have hr35 := hg.y35
  have HSX := Lib.hid (sign_no hx35 hx43)
  have HS := fun W => Lib.hid (show Calls Tryz.prog 81 #[.string x] W fun e w' => e = .returned (.bool false) ∧ w' = W by have h := sign_any x W; rw [sign_no hx35 hx43] at h; exact h)
  clear hf hg
  go_enter Tryz.func97, Tryz.ntmps97
  go_wp2_with fail
  refine (HF _).out.mono ?_
  rintro e w1 ⟨b1, o1, c1, rfl, hl1, a0, a1, hb1⟩
  go_wp2_with fail
  refine (HG _).out.mono ?_
  rintro e w2 ⟨b2, o2, c2, rfl, hl2, d0, d1, hb2⟩
  have hb12 := hb1.trans (hb2.mono hb1.size)
  have a0' := (hb2.cell (p := ⟨b1, o1, none⟩) hl1).trans a0
  have a1' := (hb2.cell (p := ⟨b1, o1 + 1, none⟩) hl1).trans a1
  clear a0 a1
  go_wp2_with fail
  refine (HS _).out.mono ?_
  rintro e w' ⟨rfl, hw⟩
  rw [hw]
  clear hw w'
  have hbx : Below w2.heap.size w2 (w2.alloc (.cells #[.string f, .slice (some ⟨b1, o1, none⟩) 2 c1, .slice (some ⟨b2, o2, none⟩) 2 c2, .slice none 0 0] 181)) := (Below.refl _ _).alloc (Nat.le_refl _) _
  have bk : (w2.alloc (.cells #[.string f, .slice (some ⟨b1, o1, none⟩) 2 c1, .slice (some ⟨b2, o2, none⟩) 2 c2, .slice none 0 0] 181)).heap[w2.heap.size]? = some (.cells #[.string f, .slice (some ⟨b1, o1, none⟩) 2 c1, .slice (some ⟨b2, o2, none⟩) 2 c2, .slice none 0 0] 181 (0, 0)) := heap_alloc_new w2 _
  have hl1' := World.block_lt_of_cell? w2 _ a0'
  have x0 := (hbx.cell (p := ⟨b1, o1, none⟩) hl1').trans a0'
  have x1 := (hbx.cell (p := ⟨b1, o1 + 1, none⟩) hl1').trans a1'
  have z0 := (hbx.cell (p := ⟨b2, o2, none⟩) hl2).trans d0
  have z1 := (hbx.cell (p := ⟨b2, o2 + 1, none⟩) hl2).trans d1
  clear a0' a1' d0 d1
  go_wp2_with fail
  refine wp_loop_rounds 2 ?_
  rw [rounds_succ]
  generalize w2.alloc (.cells #[.string f, .slice (some ⟨b1, o1, none⟩) 2 c1, .slice (some ⟨b2, o2, none⟩) 2 c2, .slice none 0 0] 181) = w3 at *
  have p0 : w3.cell? ⟨w2.heap.size, 0, none⟩ = some (.string f) := (cell_of_row w3 w2.heap.size 0 _ 181 (0, 0) bk).trans rfl
  have p1 : w3.cell? ⟨w2.heap.size, 1, none⟩ = some (.slice (some ⟨b1, o1, none⟩) 2 c1) := (cell_of_row w3 w2.heap.size 1 _ 181 (0, 0) bk).trans rfl
  have p3 : w3.cell? ⟨w2.heap.size, 3, none⟩ = some (.slice none 0 0) := (cell_of_row w3 w2.heap.size 3 _ 181 (0, 0) bk).trans rfl
  have hO : OutIs w3 w2.heap.size b1 o1 c1 x y := ⟨p1, x0, x1⟩
  have HO := Lib.hid hO
  clear hO
  go_wp2_with fail
  refine (ends_zero w2.heap.size b1 o1 c1 x y w3 HO.out).mono ?_
  rintro e w' ⟨rfl, hw⟩
  rw [hw]
  clear hw w'
  go_wp2_with fail
  refine (at_zero w2.heap.size b1 o1 c1 x y w3 HO.out HSX.out).mono ?_
  rintro e w' ⟨rfl, hw⟩
  rw [hw]
  clear hw w'
  have hnil := World.ownsRow_nil w3 w3.heap.size 9 1
  have hw33 : w3.heap.size ≤ w3.heap.size := Nat.le_refl _
  have hwb := blk_lt' bk
  go_wp2_with (first
    | (at_builtin; refine wpList_app rfl _ _ 78 rfl w3.heap.size 9 i0 _ 1 16 Tryz.underlying78 hi hz0 hz1 hz2 rfl (by decide) (.slice none 0 0) 0 [] rfl hnil [.string x] rfl rfl (by intro u hu; simp at hu; subst hu; rfl) (by decide) (by decide) hw33 ?_; intro v4 w4 hown4 hbel4 hsz4 hdr4 hg4; obtain ⟨g4, cap4, rfl, hgb4, hgl4⟩ := hown4.form (Nat.succ_pos _); clear hg4; have bk4 := (hbel4.block w2.heap.size hwb).trans bk; have q3 := (hbel4.cell (p := ⟨w2.heap.size, 3, none⟩) hwb).trans p3; have qf : w4.frozen? ⟨w2.heap.size, 3, none⟩ = false := by simp [World.frozen?, bk4])
    | fail)
  have hgx : w4.cell? ⟨g4, 0, none⟩ = some (.string x) := by
    have h := hown4.cells (g := g4) rfl 0 (.string x) rfl
    have hadd : (⟨g4, 0, none⟩ : Addr).add 0 = ⟨g4, 0, none⟩ := by unfold Addr.add; simp
    rwa [hadd] at h
  have hcap4 : 1 ≤ cap4 := by
    rcases hown4.2 with ⟨h, _⟩ | ⟨g', c', cur, h, _, _, hn, _⟩
    · cases h
    · cases h; omega
  have hne1 : w2.heap.size ≠ b1 := by omega
  have hne2 : w2.heap.size ≠ b2 := by omega
  have hneg : w2.heap.size ≠ g4 := by omega
  have far : ∀ (b o : Nat) (u : Value), w2.heap.size ≠ b → w4.cell? ⟨b, o, none⟩ = some u → (w4.setCell ⟨w2.heap.size, 3, none⟩ (.slice (some ⟨g4, 0, none⟩) 1 cap4)).cell? ⟨b, o, none⟩ = some u := fun b o u hb hu =>
    (World.cell?_setCell_other _ _ _ _ (fun h => hb (by injection h))).trans hu
  have hl13 : b1 < w3.heap.size := World.block_lt_of_cell? _ _ x0
  have hl23 : b2 < w3.heap.size := World.block_lt_of_cell? _ _ z0
  have X0 := far b1 o1 _ hne1 ((hbel4.cell (p := ⟨b1, o1, none⟩) hl13).trans x0)
  have X1 := far b1 (o1 + 1) _ hne1 ((hbel4.cell (p := ⟨b1, o1 + 1, none⟩) hl13).trans x1)
  have Z1 := far b2 (o2 + 1) _ hne2 ((hbel4.cell (p := ⟨b2, o2 + 1, none⟩) hl23).trans z1)
  have G0 := far g4 0 _ hneg hgx
  have hfar2 : ∀ (o : Nat) (u : Value), o ≠ 3 → w4.cell? ⟨w2.heap.size, o, none⟩ = some u → (w4.setCell ⟨w2.heap.size, 3, none⟩ (.slice (some ⟨g4, 0, none⟩) 1 cap4)).cell? ⟨w2.heap.size, o, none⟩ = some u := fun o u ho hu =>
    (World.cell?_setCell_other _ _ _ _ (fun h => ho (by injection h with _ h; exact h.symm))).trans hu
  have P0 := hfar2 0 _ (by decide) ((hbel4.cell (p := ⟨w2.heap.size, 0, none⟩) hwb).trans p0)
  have P1 := hfar2 1 _ (by decide) ((hbel4.cell (p := ⟨w2.heap.size, 1, none⟩) hwb).trans p1)
  have P3 : (w4.setCell ⟨w2.heap.size, 3, none⟩ (.slice (some ⟨g4, 0, none⟩) 1 cap4)).cell? ⟨w2.heap.size, 3, none⟩ = some (.slice (some ⟨g4, 0, none⟩) 1 cap4) := World.cell?_setCell_same _ _ _ q3
  have hb5 : Below w2.heap.size w2 (w4.setCell ⟨w2.heap.size, 3, none⟩ (.slice (some ⟨g4, 0, none⟩) 1 cap4)) := (hbx.trans (hbel4.mono (by omega))).setCell (Nat.le_refl _) _
  have HSY := Lib.hid (show signS y = true by simp [signS, hy])
  have HOT := fun W => other_any r W
  clear far hfar2 hgx hown4 x0 x1 z0 z1 p0 p1 p3 q3 qf bk4 hnil HO hbx bk
  rw [rounds_succ]
  generalize w4.setCell ⟨w2.heap.size, 3, none⟩ (.slice (some ⟨g4, 0, none⟩) 1 cap4) = w5 at *
  have HO5 := Lib.hid (OutIs.mk (w := w5) (b := w2.heap.size) (bf := b1) (o := o1) (cf := c1) (x := x) (y := y) P1 X0 X1)
  go_wp2_with fail
  refine (ends_one w2.heap.size b1 o1 c1 x y w5 HO5.out hy35).mono ?_
  rintro e w' ⟨rfl, hw⟩
  rw [hw]
  clear hw w'
  go_wp2_with fail
  refine (at_sign w2.heap.size b1 o1 c1 x y w5 HO5.out HSY.out).mono ?_
  rintro e w' ⟨rfl, hw⟩
  rw [hw]
  clear hw w'
  go_wp2_with fail
  refine (HOT _).mono ?_
  rintro e w' ⟨rfl, hw⟩
  rw [hw]
  clear hw w'
  go_wp2_with fail
  refine (leaves_one w2.heap.size b1 o1 c1 g4 cap4 x y f (otherS r) w5 HO5.out P0 P3 hcap4 G0 hj).mono ?_
  rintro e w6 ⟨rfl, hb6⟩
  go_wp2
  go_ret2
  exact ⟨rfl, hb12.trans ((hb5.trans (hb6.mono hb5.size)).mono hb12.size)⟩
set_option maxRecDepth 100000 in
set_option maxHeartbeats 2000000 in
theorem outside_yes (f g x y r : ByteArray) (w : World) (hf : Two f x y) (hg : Two g x r) (hy : (y.toList == [43]) = false) (hr : (r.toList == [43]) = true) :
    Calls Tryz.prog 97 #[.string f, .string g] w fun e w' => e = .returned (.tuple #[.string ⟨#[]⟩, .bool false]) ∧ Below w.heap.size w w' := by
  obtain ⟨i0, hi, hz0, hz1, hz2⟩ := info_parts info9
  have HF := fun W => Lib.hid (hf.lvs W)
  have HG := fun W => Lib.hid (hg.lvs W)
  have hx35 := hf.x35
  have hx43 := hf.x43
  have hy35 := hf.y35
  have hr35 := hg.y35
  have HSX := Lib.hid (sign_no hx35 hx43)
  have HS := fun W => Lib.hid (show Calls Tryz.prog 81 #[.string x] W fun e w' => e = .returned (.bool false) ∧ w' = W by have h := sign_any x W; rw [sign_no hx35 hx43] at h; exact h)
  clear hf hg
  go_enter Tryz.func97, Tryz.ntmps97
  go_wp2_with fail
  refine (HF _).out.mono ?_
  rintro e w1 ⟨b1, o1, c1, rfl, hl1, a0, a1, hb1⟩
  go_wp2_with fail
  refine (HG _).out.mono ?_
  rintro e w2 ⟨b2, o2, c2, rfl, hl2, d0, d1, hb2⟩
  have hb12 := hb1.trans (hb2.mono hb1.size)
  have a0' := (hb2.cell (p := ⟨b1, o1, none⟩) hl1).trans a0
  have a1' := (hb2.cell (p := ⟨b1, o1 + 1, none⟩) hl1).trans a1
  clear a0 a1
  go_wp2_with fail
  refine (HS _).out.mono ?_
  rintro e w' ⟨rfl, hw⟩
  rw [hw]
  clear hw w'
  have hbx : Below w2.heap.size w2 (w2.alloc (.cells #[.string f, .slice (some ⟨b1, o1, none⟩) 2 c1, .slice (some ⟨b2, o2, none⟩) 2 c2, .slice none 0 0] 181)) := (Below.refl _ _).alloc (Nat.le_refl _) _
  have bk : (w2.alloc (.cells #[.string f, .slice (some ⟨b1, o1, none⟩) 2 c1, .slice (some ⟨b2, o2, none⟩) 2 c2, .slice none 0 0] 181)).heap[w2.heap.size]? = some (.cells #[.string f, .slice (some ⟨b1, o1, none⟩) 2 c1, .slice (some ⟨b2, o2, none⟩) 2 c2, .slice none 0 0] 181 (0, 0)) := heap_alloc_new w2 _
  have hl1' := World.block_lt_of_cell? w2 _ a0'
  have x0 := (hbx.cell (p := ⟨b1, o1, none⟩) hl1').trans a0'
  have x1 := (hbx.cell (p := ⟨b1, o1 + 1, none⟩) hl1').trans a1'
  have z0 := (hbx.cell (p := ⟨b2, o2, none⟩) hl2).trans d0
  have z1 := (hbx.cell (p := ⟨b2, o2 + 1, none⟩) hl2).trans d1
  clear a0' a1' d0 d1
  go_wp2_with fail
  refine wp_loop_rounds 3 ?_
  rw [rounds_succ]
  generalize w2.alloc (.cells #[.string f, .slice (some ⟨b1, o1, none⟩) 2 c1, .slice (some ⟨b2, o2, none⟩) 2 c2, .slice none 0 0] 181) = w3 at *
  have p0 : w3.cell? ⟨w2.heap.size, 0, none⟩ = some (.string f) := (cell_of_row w3 w2.heap.size 0 _ 181 (0, 0) bk).trans rfl
  have p1 : w3.cell? ⟨w2.heap.size, 1, none⟩ = some (.slice (some ⟨b1, o1, none⟩) 2 c1) := (cell_of_row w3 w2.heap.size 1 _ 181 (0, 0) bk).trans rfl
  have p3 : w3.cell? ⟨w2.heap.size, 3, none⟩ = some (.slice none 0 0) := (cell_of_row w3 w2.heap.size 3 _ 181 (0, 0) bk).trans rfl
  have hO : OutIs w3 w2.heap.size b1 o1 c1 x y := ⟨p1, x0, x1⟩
  have HO := Lib.hid hO
  clear hO
  go_wp2_with fail
  refine (ends_zero w2.heap.size b1 o1 c1 x y w3 HO.out).mono ?_
  rintro e w' ⟨rfl, hw⟩
  rw [hw]
  clear hw w'
  go_wp2_with fail
  refine (at_zero w2.heap.size b1 o1 c1 x y w3 HO.out HSX.out).mono ?_
  rintro e w' ⟨rfl, hw⟩
  rw [hw]
  clear hw w'
  have hnil := World.ownsRow_nil w3 w3.heap.size 9 1
  have hw33 : w3.heap.size ≤ w3.heap.size := Nat.le_refl _
  have hwb := blk_lt' bk
  go_wp2_with (first
    | (at_builtin; refine wpList_app rfl _ _ 78 rfl w3.heap.size 9 i0 _ 1 16 Tryz.underlying78 hi hz0 hz1 hz2 rfl (by decide) (.slice none 0 0) 0 [] rfl hnil [.string x] rfl rfl (by intro u hu; simp at hu; subst hu; rfl) (by decide) (by decide) hw33 ?_; intro v4 w4 hown4 hbel4 hsz4 hdr4 hg4; obtain ⟨g4, cap4, rfl, hgb4, hgl4⟩ := hown4.form (Nat.succ_pos _); clear hg4; have bk4 := (hbel4.block w2.heap.size hwb).trans bk; have q3 := (hbel4.cell (p := ⟨w2.heap.size, 3, none⟩) hwb).trans p3; have qf : w4.frozen? ⟨w2.heap.size, 3, none⟩ = false := by simp [World.frozen?, bk4])
    | fail)
  have hgx : w4.cell? ⟨g4, 0, none⟩ = some (.string x) := by
    have h := hown4.cells (g := g4) rfl 0 (.string x) rfl
    have hadd : (⟨g4, 0, none⟩ : Addr).add 0 = ⟨g4, 0, none⟩ := by unfold Addr.add; simp
    rwa [hadd] at h
  have hcap4 : 1 ≤ cap4 := by
    rcases hown4.2 with ⟨h, _⟩ | ⟨g', c', cur, h, _, _, hn, _⟩
    · cases h
    · cases h; omega
  have hne1 : w2.heap.size ≠ b1 := by omega
  have hne2 : w2.heap.size ≠ b2 := by omega
  have hneg : w2.heap.size ≠ g4 := by omega
  have far : ∀ (b o : Nat) (u : Value), w2.heap.size ≠ b → w4.cell? ⟨b, o, none⟩ = some u → (w4.setCell ⟨w2.heap.size, 3, none⟩ (.slice (some ⟨g4, 0, none⟩) 1 cap4)).cell? ⟨b, o, none⟩ = some u := fun b o u hb hu =>
    (World.cell?_setCell_other _ _ _ _ (fun h => hb (by injection h))).trans hu
  have hl13 : b1 < w3.heap.size := World.block_lt_of_cell? _ _ x0
  have hl23 : b2 < w3.heap.size := World.block_lt_of_cell? _ _ z0
  have X0 := far b1 o1 _ hne1 ((hbel4.cell (p := ⟨b1, o1, none⟩) hl13).trans x0)
  have X1 := far b1 (o1 + 1) _ hne1 ((hbel4.cell (p := ⟨b1, o1 + 1, none⟩) hl13).trans x1)
  have Z1 := far b2 (o2 + 1) _ hne2 ((hbel4.cell (p := ⟨b2, o2 + 1, none⟩) hl23).trans z1)
  have G0 := far g4 0 _ hneg hgx
  have hfar2 : ∀ (o : Nat) (u : Value), o ≠ 3 → w4.cell? ⟨w2.heap.size, o, none⟩ = some u → (w4.setCell ⟨w2.heap.size, 3, none⟩ (.slice (some ⟨g4, 0, none⟩) 1 cap4)).cell? ⟨w2.heap.size, o, none⟩ = some u := fun o u ho hu =>
    (World.cell?_setCell_other _ _ _ _ (fun h => ho (by injection h with _ h; exact h.symm))).trans hu
  have P0 := hfar2 0 _ (by decide) ((hbel4.cell (p := ⟨w2.heap.size, 0, none⟩) hwb).trans p0)
  have P1 := hfar2 1 _ (by decide) ((hbel4.cell (p := ⟨w2.heap.size, 1, none⟩) hwb).trans p1)
  have P3 : (w4.setCell ⟨w2.heap.size, 3, none⟩ (.slice (some ⟨g4, 0, none⟩) 1 cap4)).cell? ⟨w2.heap.size, 3, none⟩ = some (.slice (some ⟨g4, 0, none⟩) 1 cap4) := World.cell?_setCell_same _ _ _ q3
  have hb5 : Below w2.heap.size w2 (w4.setCell ⟨w2.heap.size, 3, none⟩ (.slice (some ⟨g4, 0, none⟩) 1 cap4)) := (hbx.trans (hbel4.mono (by omega))).setCell (Nat.le_refl _) _
  have HSY := Lib.hid (sign_no hy35 hy)
  have hown5 := own_setC hown4 (p := ⟨w2.heap.size, 3, none⟩) (fun e => hneg (by simpa [Value.ownBlock] using e)) (.slice (some ⟨g4, 0, none⟩) 1 cap4)
  have hblk5 : ∃ cs, (w4.setCell ⟨w2.heap.size, 3, none⟩ (.slice (some ⟨g4, 0, none⟩) 1 cap4)).heap[w2.heap.size]? = some (.cells cs 181 (0, 0)) := ⟨_, blk_setC bk4 3 _⟩
  have hsz5 : w3.heap.size ≤ (w4.setCell ⟨w2.heap.size, 3, none⟩ (.slice (some ⟨g4, 0, none⟩) 1 cap4)).heap.size := by simp [World.setCell]; exact hbel4.size
  clear far hfar2 hgx hown4 x0 x1 z0 z1 p0 p1 p3 q3 qf bk4 hnil HO hbx bk
  rw [rounds_succ]
  generalize w4.setCell ⟨w2.heap.size, 3, none⟩ (.slice (some ⟨g4, 0, none⟩) 1 cap4) = w5 at *
  obtain ⟨cs5, bk5⟩ := hblk5
  have HO5 := Lib.hid (OutIs.mk (w := w5) (b := w2.heap.size) (bf := b1) (o := o1) (cf := c1) (x := x) (y := y) P1 X0 X1)
  have hwb5 := blk_lt' bk5
  go_wp2_with fail
  refine (ends_one w2.heap.size b1 o1 c1 x y w5 HO5.out hy35).mono ?_
  rintro e w' ⟨rfl, hw⟩
  rw [hw]
  clear hw w'
  go_wp2_with fail
  refine (at_one w2.heap.size b1 o1 c1 x y w5 HO5.out HSY.out).mono ?_
  rintro e w' ⟨rfl, hw⟩
  rw [hw]
  clear hw w'
  go_wp2_with (first
    | (at_builtin; refine wpList_app rfl _ _ 78 rfl w3.heap.size 9 i0 _ 1 16 Tryz.underlying78 hi hz0 hz1 hz2 rfl (by decide) (.slice (some ⟨g4, 0, none⟩) 1 cap4) 1 [.string x] rfl hown5 [.string y] rfl rfl (by intro u hu; simp at hu; subst hu; rfl) (by decide) (by decide) hsz5 ?_; intro v6 w6 hown6 hbel6 hsz6 hdr6 hg6; obtain ⟨g6, cap6, rfl, hgb6, hgl6⟩ := hown6.form (Nat.succ_pos _); clear hg6; have bk6 := (hbel6.block w2.heap.size hwb).trans bk5; have q3 := (hbel6.cell (p := ⟨w2.heap.size, 3, none⟩) hwb).trans P3; have qf : w6.frozen? ⟨w2.heap.size, 3, none⟩ = false := by simp [World.frozen?, bk6])
    | fail)
  have far : ∀ (b o : Nat) (u : Value), w2.heap.size ≠ b → w6.cell? ⟨b, o, none⟩ = some u → (w6.setCell ⟨w2.heap.size, 3, none⟩ (.slice (some ⟨g6, 0, none⟩) 2 cap6)).cell? ⟨b, o, none⟩ = some u := fun b o u hb hu =>
    (World.cell?_setCell_other _ _ _ _ (fun h => hb (by injection h))).trans hu
  have Y0 := far b1 o1 _ hne1 ((hbel6.cell (p := ⟨b1, o1, none⟩) hl13).trans X0)
  have Y1 := far b1 (o1 + 1) _ hne1 ((hbel6.cell (p := ⟨b1, o1 + 1, none⟩) hl13).trans X1)
  have Q1 : (w6.setCell ⟨w2.heap.size, 3, none⟩ (.slice (some ⟨g6, 0, none⟩) 2 cap6)).cell? ⟨w2.heap.size, 1, none⟩ = some (.slice (some ⟨b1, o1, none⟩) 2 c1) :=
    (World.cell?_setCell_other _ _ _ _ (fun h => by injection h with _ h; exact absurd h (by decide))).trans ((hbel6.cell (p := ⟨w2.heap.size, 1, none⟩) hwb).trans P1)
  have hb7 : Below w2.heap.size w2 (w6.setCell ⟨w2.heap.size, 3, none⟩ (.slice (some ⟨g6, 0, none⟩) 2 cap6)) := (hb5.trans (hbel6.mono (by omega))).setCell (Nat.le_refl _) _
  clear far hown6 hown5 X0 X1 Z1 G0 P0 P1 P3 q3 qf bk6 bk5 HO5
  rw [rounds_succ]
  generalize w6.setCell ⟨w2.heap.size, 3, none⟩ (.slice (some ⟨g6, 0, none⟩) 2 cap6) = w7 at *
  have HO7 := Lib.hid (OutIs.mk (w := w7) (b := w2.heap.size) (bf := b1) (o := o1) (cf := c1) (x := x) (y := y) Q1 Y0 Y1)
  go_wp2_with fail
  refine (ends_two w2.heap.size b1 o1 c1 x y w7 HO7.out).mono ?_
  rintro e w' ⟨rfl, hw⟩
  rw [hw]
  clear hw w'
  go_wp2_with fail
  refine (at_end w2.heap.size b1 o1 c1 x y w7 HO7.out hy35).mono ?_
  rintro e w' ⟨rfl, hw⟩
  rw [hw]
  clear hw w'
  go_wp2
  go_ret2
  exact ⟨rfl, hb12.trans (hb7.mono hb12.size)⟩

end Go.Proofs.YtjeafniglnnkhaaGreatDoor

namespace Go.Proofs.YtjeafniglnnkhaaGreatDoor
open Go.RowKit

theorem within_no (f g x y r : ByteArray) (w : World) (hf : Two f x y) (hg : Two g x r) (hy : (y.toList == [43]) = true) (hr : (r.toList == [43]) = false) (hj : (joinS [x, otherS r]).size ≤ 65535) :
    Calls Tryz.prog 70 #[.string f, .string g] w fun e w' => e = .returned (.bool false) ∧ Below w.heap.size w w' := by
  have HC := Lib.hid (outside_no f g x y r w hf hg hy hr hj)
  clear hf hg hj
  go_enter Tryz.func70, Tryz.ntmps70
  go_wp2_with fail
  refine HC.out.mono ?_
  rintro e w1 ⟨rfl, hb⟩
  go_wp2
  go_ret
  exact ⟨rfl, hb⟩

theorem within_yes (f g x y r : ByteArray) (w : World) (hf : Two f x y) (hg : Two g x r) (hy : (y.toList == [43]) = false) (hr : (r.toList == [43]) = true) :
    Calls Tryz.prog 70 #[.string f, .string g] w fun e w' => e = .returned (.bool true) ∧ Below w.heap.size w w' := by
  have HC := Lib.hid (outside_yes f g x y r w hf hg hy hr)
  clear hf hg
  go_enter Tryz.func70, Tryz.ntmps70
  go_wp2_with fail
  refine HC.out.mono ?_
  rintro e w1 ⟨rfl, hb⟩
  go_wp2
  go_ret
  exact ⟨rfl, hb⟩

/-! ### the filters of known -/
def kA : ByteArray := ⟨#[97]⟩
def kB : ByteArray := ⟨#[98]⟩
def kC : ByteArray := ⟨#[99]⟩
def kPlus : ByteArray := ⟨#[43]⟩
def kAPlus : ByteArray := ⟨#[97, 47, 43]⟩
def kAB : ByteArray := ⟨#[97, 47, 98]⟩
def kAC : ByteArray := ⟨#[97, 47, 99]⟩
def kHash : ByteArray := ⟨#[35]⟩

theorem two_aplus : Two kAPlus kA kPlus := ⟨by decide, by kernel_rfl, by kernel_rfl, by kernel_rfl, by kernel_rfl, by kernel_rfl, by kernel_rfl⟩
theorem two_ab : Two kAB kA kB := ⟨by decide, by kernel_rfl, by kernel_rfl, by kernel_rfl, by kernel_rfl, by kernel_rfl, by kernel_rfl⟩
theorem two_ac : Two kAC kA kC := ⟨by decide, by kernel_rfl, by kernel_rfl, by kernel_rfl, by kernel_rfl, by kernel_rfl, by kernel_rfl⟩
end Go.Proofs.YtjeafniglnnkhaaGreatDoor

namespace Go.Proofs.YtjeafniglnnkhaaGreatDoor
open Go.RowKit

theorem isShared_any (f : ByteArray) (w : World) (hf : f.size ≤ 1000000) :
    Calls Tryz.prog 51 #[.string f] w fun e w' => e = .returned (.bool (sharedS f).isSome) ∧ Below w.heap.size w w' := by
  cases h : sharedS f with
  | none =>
    have HC := Lib.hid (show Calls Tryz.prog 8 #[.string f] w fun e w' => e = .returned (.tuple #[.string ⟨#[]⟩, .string ⟨#[]⟩, .bool false]) ∧ Below w.heap.size w w' by have h1 := shared_any f w hf; rw [h] at h1; exact h1)
    clear h
    go_enter Tryz.func51, Tryz.ntmps51
    go_wp2_with fail
    refine HC.out.mono ?_
    rintro e w1 ⟨rfl, hb⟩
    go_wp2
    go_ret
    exact ⟨rfl, hb⟩
  | some gi =>
    obtain ⟨g, i⟩ := gi
    have HC := Lib.hid (show Calls Tryz.prog 8 #[.string f] w fun e w' => e = .returned (.tuple #[.string g, .string i, .bool true]) ∧ Below w.heap.size w w' by have h1 := shared_any f w hf; rw [h] at h1; exact h1)
    clear h
    go_enter Tryz.func51, Tryz.ntmps51
    go_wp2_with fail
    refine HC.out.mono ?_
    rintro e w1 ⟨rfl, hb⟩
    go_wp2
    go_ret
    exact ⟨rfl, hb⟩
end Go.Proofs.YtjeafniglnnkhaaGreatDoor
