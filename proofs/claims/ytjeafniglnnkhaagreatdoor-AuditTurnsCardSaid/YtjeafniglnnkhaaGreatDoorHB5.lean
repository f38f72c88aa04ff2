/- Walks: empty, plain. -/
import Derived.Test.YtjeafniglnnkhaaGreatDoorHB4
namespace Go.Proofs.YtjeafniglnnkhaaGreatDoor
open Go.RowKit

def emptyS (I : Img) : Bool := I.ses.any fun S => S.client.toList.isEmpty

theorem any_step {α : Type} (p : α → Bool) (l : List α) (k : Nat) (h : k < l.length) : (l.drop k).any p = (p l[k] || (l.drop (k + 1)).any p) := by
  rw [List.drop_eq_getElem_cons h, List.any_cons]
theorem any_end {α : Type} (p : α → Bool) (l : List α) (k : Nat) (h : ¬ k < l.length) : (l.drop k).any p = false := by
  rw [List.drop_of_length_le (by omega)]; rfl

/-- An image by value, boxed: the box's cells, and the image as it lies behind the box. -/
theorem boxed {w : World} {autos : Int} {vs vr vg : Value} {I : Img} {B : Nat} (hI : IsImg w B vs vr vg I) (hB : B ≤ w.heap.size) :
    ∃ w0, w0 = w.alloc (.cells #[.int .i64 autos, vs, vr, vg] 26) ∧ Below w.heap.size w w0 ∧ w0.heap.size = w.heap.size + 1 ∧ IsImg w0 B vs vr vg I ∧
      w0.cell? ⟨w.heap.size, 0, none⟩ = some (.int .i64 autos) ∧ w0.cell? ⟨w.heap.size, 1, none⟩ = some vs ∧ w0.cell? ⟨w.heap.size, 2, none⟩ = some vr ∧ w0.cell? ⟨w.heap.size, 3, none⟩ = some vg :=
  ⟨_, rfl, (Below.refl _ _).alloc (Nat.le_refl _) _, by simp, hI.below ((Below.refl _ _).alloc hB _), box_cell w _ 26 0 rfl, box_cell w _ 26 1 rfl, box_cell w _ 26 2 rfl, box_cell w _ 26 3 rfl⟩

/-- The parts of an image's four values, opened. -/
theorem IsImg.vals {w : World} {B : Nat} {vs vr vg : Value} {I : Img} (h : IsImg w B vs vr vg I) :
    ∃ As cs Ar nr cr Ag cg, vs = .slice As I.ses.length cs ∧ vr = .slice Ar nr cr ∧ vg = .slice Ag I.groups.length cg ∧ I.ses.length ≤ cs ∧ I.groups.length ≤ cg ∧ I.ses.length ≤ 1152921504606846976 ∧ I.groups.length ≤ 1152921504606846976 := by
  obtain ⟨nr, hret⟩ := h.ret
  obtain ⟨As, cs, h1, h2, h3, _⟩ := h.ses
  obtain ⟨Ar, cr, h4, _, _, _⟩ := hret
  obtain ⟨Ag, cg, h5, h6, h7, _⟩ := h.groups
  exact ⟨As, cs, Ar, nr, cr, Ag, cg, h1, h4, h5, h2, h6, h3, h7⟩

/-- Session k of an image: where its cells lie and what they hold. -/
theorem IsImg.at_ {w : World} {B : Nat} {As : Option Addr} {cs : Nat} {vr vg : Value} {I : Img} (h : IsImg w B (.slice As I.ses.length cs) vr vg I) {k : Nat} (hk : k < I.ses.length) :
    ∃ b o, As = some ⟨b, o, none⟩ ∧ b < B ∧ ∃ (Au Af Aq Ai : Option Addr) (cu cf cq ci nf nq ni : Nat) (last : Int),
      w.cell? ⟨b, o + k * 6, none⟩ = some (.string I.ses[k].client) ∧ w.cell? ⟨b, o + k * 6 + 1, none⟩ = some (.slice Au I.ses[k].subs.length cu) ∧ w.cell? ⟨b, o + k * 6 + 2, none⟩ = some (.int .i64 last) ∧
      w.cell? ⟨b, o + k * 6 + 3, none⟩ = some (.slice Af nf cf) ∧ w.cell? ⟨b, o + k * 6 + 4, none⟩ = some (.slice Aq nq cq) ∧ w.cell? ⟨b, o + k * 6 + 5, none⟩ = some (.slice Ai ni ci) ∧
      IsRows w B 2 (.slice Au I.ses[k].subs.length cu) I.ses[k].subs.length (AskCells I.ses[k].subs) ∧ I.ses[k].subs.length ≤ 1152921504606846976 := by
  obtain ⟨As', cs', e1, e2, e3, e4⟩ := h.ses
  cases e1
  obtain ⟨bb, oo, rfl, hbb, hcell⟩ := e4 (by omega)
  obtain ⟨cs, hses, hcs⟩ := hcell k hk
  obtain ⟨_, ⟨us, uf, uq, last, Ai, nf, nq, ni, ci, rfl, r1, r2, r3, r4⟩, hcl, hsu⟩ := hses
  have R1 := r1
  obtain ⟨Au, cu, rfl, _, hn1, _⟩ := r1
  obtain ⟨Af, cf, rfl, _, _, _⟩ := r2
  obtain ⟨Aq, cq, rfl, _, _, _⟩ := r3
  exact ⟨bb, oo, rfl, hbb, Au, Af, Aq, Ai, cu, cf, cq, ci, nf, nq, ni, last, hcs 0 _ rfl, hcs 1 _ rfl, hcs 2 _ rfl, hcs 3 _ rfl, hcs 4 _ rfl, hcs 5 _ rfl, R1, hn1⟩

/-- Ask j of a slice of asks. -/
theorem asks_at {w : World} {B : Nat} {A : Option Addr} {c : Nat} {l : List (ByteArray × Int)} (h : IsRows w B 2 (.slice A l.length c) l.length (AskCells l)) {j : Nat} (hj : j < l.length) :
    ∃ b o, A = some ⟨b, o, none⟩ ∧ b < B ∧ w.cell? ⟨b, o + j * 2, none⟩ = some (.string l[j].1) ∧ w.cell? ⟨b, o + j * 2 + 1, none⟩ = some (.int .i64 l[j].2) := by
  obtain ⟨A', c', e1, e2, e3, e4⟩ := h
  cases e1
  obtain ⟨b, o, rfl, hb, hcell⟩ := e4 (by omega)
  obtain ⟨cs, ⟨_, rfl⟩, hcs⟩ := hcell j hj
  exact ⟨b, o, rfl, hb, hcs 0 _ rfl, hcs 1 _ rfl⟩

set_option maxRecDepth 100000 in
set_option maxHeartbeats 1000000 in
theorem empty_any (autos : Int) (vs vr vg : Value) (I : Img) (w : World) (B : Nat) (hI : IsImg w B vs vr vg I) (hB : B ≤ w.heap.size) :
    Calls Tryz.prog 11 #[.agg #[.int .i64 autos, vs, vr, vg]] w fun e w' => e = .returned (.bool (emptyS I)) ∧ Below w.heap.size w w' := by
  obtain ⟨As, cs, Ar, nr, cr, Ag, cg, rfl, rfl, rfl, hcs, hcg, hns, hng⟩ := hI.vals
  obtain ⟨w0, hw0, hb0, hsz0, hI0, i0, i1, i2, i3⟩ := boxed (autos := autos) hI hB
  have HW := Lib.hid hw0
  have HI := Lib.hid hI0
  clear hI hw0 hI0
  go_enter Tryz.func11, Tryz.ntmps11
  go_wp2
  rw [← HW.out]
  go_loop [3] (fun i => ∃ k : Nat, i = .int .i64 k ∧ k ≤ I.ses.length ∧ Hid ((I.ses.drop k).any (fun S => S.client.toList.isEmpty) = emptyS I)) (fun i => I.ses.length - (intOf i).toNat)
  case atStart => exact ⟨0, rfl, by omega, rfl⟩
  case round =>
    obtain ⟨k, rfl, hk, HK⟩ := hrel
    by_cases hlt : k < I.ses.length
    · obtain ⟨bb, oo, rfl, hbb, Au, Af, Aq, Ai, cu, cf, cq, ci, nf, nq, ni, last, g0, g1, g2, g3, g4, g5, r1, _⟩ := HI.out.at_ hlt
      have hst := any_step (fun S : Ses => S.client.toList.isEmpty) I.ses k hlt
      rw [HK.out] at hst
      have HS := Lib.hid hst
      clear hst r1 g1 g2 g3 g4 g5
      cases he : I.ses[k].client.toList.isEmpty with
      | true =>
        have HT := Lib.hid (show emptyS I = true by rw [HS.out, he]; rfl)
        go_wp2
        go_ret
        exact ⟨HT.out.symm ▸ rfl, hb0⟩
      | false =>
        have HT := Lib.hid (show (I.ses.drop (k + 1)).any (fun S => S.client.toList.isEmpty) = emptyS I by rw [HS.out, he]; rfl)
        go_wp2
        go_round
        case rel => exact ⟨k + 1, by go_num, by omega, HT⟩
        case measure => simp [intOf]; omega
    · have HT := Lib.hid (show emptyS I = false by rw [← HK.out]; exact any_end _ _ _ hlt)
      go_wp2
      go_ret
      exact ⟨HT.out.symm ▸ rfl, hb0⟩
end Go.Proofs.YtjeafniglnnkhaaGreatDoor
