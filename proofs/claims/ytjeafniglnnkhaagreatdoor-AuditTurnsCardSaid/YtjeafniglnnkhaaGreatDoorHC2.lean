/- Walks: slices.IndexFunc at an image's groups and at entries. -/
import Derived.Test.YtjeafniglnnkhaaGreatDoorHS6
import Derived.Test.YtjeafniglnnkhaaGreatDoorHC1
namespace Go.Proofs.YtjeafniglnnkhaaGreatDoor
open Go.RowKit Go.Sort

theorem idx_find {α : Type} (p : α → Bool) (d : α) : ∀ (l : List α) (i : Nat), (Lib.idxByFrom (fun _ y => p y) d l i = -1 ∧ l.find? p = none) ∨ ∃ k, ∃ hk : k < l.length, Lib.idxByFrom (fun _ y => p y) d l i = ((i + k : Nat) : Int) ∧ l.find? p = some l[k]
  | [], _ => .inl ⟨rfl, rfl⟩
  | y :: l, i => by
    by_cases h : p y = true
    · exact .inr ⟨0, by simp, by simp [Lib.idxByFrom, h], by simp [h]⟩
    · have h' : p y = false := by simpa using h
      rcases idx_find p d l (i + 1) with ⟨h1, h2⟩ | ⟨k, hk, h1, h2⟩
      · exact .inl ⟨by simp [Lib.idxByFrom, h', h1], by simp [h', h2]⟩
      · refine .inr ⟨k + 1, by simp; omega, ?_, by simp [h', h2]⟩
        simp only [Lib.idxByFrom, h', h1]
        simp
        omega

theorem index31_empty (A : Option Addr) (c : Nat) (fv : Value) (w : World) : Calls Tryz.prog 31 #[.slice A 0 c, fv] w fun e w' => e = .returned (.int .i64 (-1)) ∧ w = w' := by
  go_enter Tryz.func31, Tryz.ntmps31
  go_wp2
  refine wp_loop_rounds 1 ?_
  rw [rounds_succ]
  go_wp2
  go_ret
  exact ⟨rfl, rfl⟩

def encG (a : ByteArray × ByteArray) : List Value := [.string a.1, .string a.2]

def FoundPost {α : Type} (l : List α) (p : α → Bool) (w : World) (e : Ending) (w' : World) : Prop :=
  ((e = .returned (.int .i64 (-1)) ∧ l.find? p = none) ∨ ∃ (k : Nat) (hk : k < l.length), e = .returned (.int .i64 k) ∧ l.find? p = some l[k]) ∧ Below w.heap.size w w'

theorem found_of {α : Type} {l : List α} {p : α → Bool} {w w' : World} {e : Ending} {d : α} (he : e = .returned (.int .i64 (Lib.idxBy (fun _ y => p y) l d))) (hb : Below w.heap.size w w') : FoundPost l p w e w' := by
  refine ⟨?_, hb⟩
  unfold Lib.idxBy at he
  rcases idx_find p d l 0 with ⟨h1, h2⟩ | ⟨k, hk, h1, h2⟩
  · exact .inl ⟨by rw [he, h1], h2⟩
  · exact .inr ⟨k, hk, by rw [he, h1, Nat.zero_add], h2⟩

set_option maxHeartbeats 400000 in
theorem groupIdx_any (vg : Value) (l : List (ByteArray × ByteArray)) (f : ByteArray) (bf B : Nat) (w : World) (hg : IsRows w B 2 vg l.length (GrpCells l)) (hB : B ≤ w.heap.size) (hf : w.cell? ⟨bf, 0, none⟩ = some (.string f)) :
    Calls Tryz.prog 31 #[vg, .func (.func 32) #[] #[.pointer (some ⟨bf, 0, none⟩)]] w (FoundPost l (fun g => g.1.toList == f.toList) w) := by
  obtain ⟨A, c, rfl, hc, hn, hA⟩ := hg
  have hbf := World.block_lt_of_cell? w ⟨bf, 0, none⟩ hf
  by_cases h0 : l = []
  · subst h0
    refine (index31_empty A c _ w).mono ?_
    rintro e w' ⟨rfl, rfl⟩
    exact ⟨.inl ⟨rfl, rfl⟩, Below.refl _ _⟩
  · have hpos : 0 < l.length := List.length_pos_iff.2 h0
    obtain ⟨b, o, rfl, hb, hcell⟩ := hA hpos
    have := AnyQ.slices_IndexFunc Tryz.layE31 2 Tryz.isAgg51 Tryz.sizeOf51 encG (fun _ => rfl) (fun g => g.1.toList == f.toList) 32 #[.pointer (some ⟨bf, 0, none⟩)] (enters_of Tryz.func32 (by kernel_rfl) rfl) b o l.length c l w
      (fun W x hW => (isGroup_any x.1 x.2 f bf 0 W ((hW.cell (p := ⟨bf, 0, none⟩) hbf).trans hf)).mono fun e w' ⟨he, hL⟩ => ⟨he, hW.trans (hL.1.mono hW.size)⟩) (Nat.le_refl _) (by omega) (by omega) (fun j hj i v hv => by
        obtain ⟨cs, ⟨_, rfl⟩, hcs⟩ := hcell j hj
        have hv' : ([Value.string l[j].1, .string l[j].2] : List Value)[i]? = some v := by
          have : l[j]! = l[j] := by simp [hj]
          rw [this] at hv
          exact hv
        exact hcs i v hv')
    rw [List.take_length] at this
    exact this.mono fun e w' ⟨he, hb⟩ => found_of he hb

set_option maxHeartbeats 400000 in
theorem laterIdx_any (v : Value) (es : List (ByteArray × Int)) (k : ByteArray) (base b o b2 o2 bg og n c i en : Nat) (w : World) (hen : es.length = en) (he : w.ownsRow base 69 2 v en (es.flatMap encE)) (hne : es ≠ [])
    (hi : w.cell? ⟨b, o + 3, none⟩ = some (.slice (some ⟨bg, og, none⟩) n c)) (hi2 : w.cell? ⟨b2, o2, none⟩ = some (.int .i64 i)) (hin : i < n) (hg : w.cell? ⟨bg, og + i * 2 + 1, none⟩ = some (.string k)) :
    Calls Tryz.prog 33 #[v, .func (.func 34) #[] #[.pointer (some ⟨b, o, none⟩), .pointer (some ⟨b2, o2, none⟩)]] w (FoundPost es (fun e => laterB e.1 k) w) := by
  subst hen
  have hpos : 0 < es.length := List.length_pos_iff.2 hne
  have h1 := World.block_lt_of_cell? w ⟨b, o + 3, none⟩ hi
  have h2 := World.block_lt_of_cell? w ⟨b2, o2, none⟩ hi2
  have h3 := World.block_lt_of_cell? w ⟨bg, og + i * 2 + 1, none⟩ hg
  rcases he.2 with ⟨_, h0⟩ | ⟨g, cap, cur, rfl, hb, hgg, hn, hm, hs, ht⟩
  · omega
  · have hgl : g < w.heap.size := (Array.getElem?_eq_some_iff.1 hgg).1
    have hcs := he.cells (g := g) rfl
    have := AnyQ.slices_IndexFunc Tryz.layE33 2 Tryz.isAgg69 Tryz.sizeOf69 encE encE_len (fun e => laterB e.1 k) 34 #[.pointer (some ⟨b, o, none⟩), .pointer (some ⟨b2, o2, none⟩)] (enters_of Tryz.func34 (by kernel_rfl) rfl) g 0 es.length cap es w
      (fun W x hW => (later_any x.1 k x.2 b o b2 o2 bg og n c i W ((hW.cell (p := ⟨b, o + 3, none⟩) h1).trans hi) ((hW.cell (p := ⟨b2, o2, none⟩) h2).trans hi2) hin ((hW.cell (p := ⟨bg, og + i * 2 + 1, none⟩) h3).trans hg)).mono fun e w' ⟨he, hL⟩ => ⟨he, hW.trans (hL.mono hW.size)⟩)
      (Nat.le_refl _) (by unfold maxLen at hm; omega) hgl (fun j hj i v hv => by
        have hi2 : i < 2 := by
          have := (List.getElem?_eq_some_iff.1 hv).1
          rwa [encE_len] at this
        have hf := flat_get encE 2 encE_len (by decide) es (j * 2 + i)
        rw [show (j * 2 + i) / 2 = j by omega, show (j * 2 + i) % 2 = i by omega, List.getElem?_eq_getElem hj] at hf
        simp only [Option.bind_some] at hf
        have e : es[j]! = es[j] := by simp [hj]
        rw [e] at hv
        rw [hv] at hf
        have := hcs _ v hf
        have hadd : (⟨g, 0, none⟩ : Addr).add (j * 2 + i) = ⟨g, 0 + (j * 2 + i), none⟩ := by unfold Addr.add; split <;> simp_all
        rw [hadd] at this
        rwa [show 0 + j * 2 + i = 0 + (j * 2 + i) by omega])
    rw [List.take_length] at this
    exact this.mono fun e w' ⟨he, hb⟩ => found_of he hb
end Go.Proofs.YtjeafniglnnkhaaGreatDoor
