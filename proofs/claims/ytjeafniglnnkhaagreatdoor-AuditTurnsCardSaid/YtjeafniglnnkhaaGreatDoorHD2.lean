/- Walks: audit.good, the closures of audit.Shares and audit.gathered. -/
import Derived.Test.YtjeafniglnnkhaaGreatDoorHD1
import Derived.Test.YtjeafniglnnkhaaGreatDoorHB5
namespace Go.Proofs.YtjeafniglnnkhaaGreatDoor
open Go.RowKit Go.Sort

def goodB (q : Int) : Bool := decide (0 ≤ q) && decide (q ≤ 2)

theorem good_any (q : Int) (w : World) : Calls Tryz.prog 26 #[.int .i64 q] w fun e w' => e = .returned (.bool (goodB q)) ∧ w' = w := by
  by_cases h0 : 0 ≤ q
  · by_cases h2 : q ≤ 2
    · have H := Lib.hid (show goodB q = true by simp [goodB, h0, h2])
      go_enter Tryz.func26, Tryz.ntmps26
      go_wp2
      go_ret
      exact ⟨by rw [H.out]; rfl, rfl⟩
    · have H := Lib.hid (show goodB q = false by simp [goodB, h2])
      go_enter Tryz.func26, Tryz.ntmps26
      go_wp2
      go_ret
      exact ⟨by rw [H.out]; rfl, rfl⟩
  · have H := Lib.hid (show goodB q = false by simp [goodB, h0])
    go_enter Tryz.func26, Tryz.ntmps26
    go_wp2
    go_ret
    exact ⟨by rw [H.out]; rfl, rfl⟩

theorem alloc_lay (w : World) (o : Obj) : Lay w (w.alloc o) := ⟨(Below.refl _ _).alloc (Nat.le_refl _) _, Nat.le_refl _⟩

set_option maxHeartbeats 400000 in
theorem isFilter_any (f g : ByteArray) (q : Int) (b o : Nat) (w : World) (hg : w.cell? ⟨b, o, none⟩ = some (.string g)) :
    Calls Tryz.prog 30 #[.agg #[.string f, .int .i64 q], .pointer (some ⟨b, o, none⟩)] w fun e w' => e = .returned (.bool (f.toList == g.toList)) ∧ Lay w w' := by
  have g0 := (World.cell?_of_block (heap_alloc_old w (.cells #[.string f, .int .i64 q] 49) (World.block_lt_of_cell? w ⟨b, o, none⟩ hg))).trans hg
  have HL := Lib.hid (alloc_lay w (.cells #[.string f, .int .i64 q] 49))
  clear hg
  go_enter Tryz.func30, Tryz.ntmps30
  go_wp2
  go_ret
  exact ⟨rfl, HL.out⟩

set_option maxHeartbeats 400000 in
theorem isGroup_any (f k g : ByteArray) (b o : Nat) (w : World) (hg : w.cell? ⟨b, o, none⟩ = some (.string g)) :
    Calls Tryz.prog 32 #[.agg #[.string f, .string k], .pointer (some ⟨b, o, none⟩)] w fun e w' => e = .returned (.bool (f.toList == g.toList)) ∧ Lay w w' := by
  have g0 := (World.cell?_of_block (heap_alloc_old w (.cells #[.string f, .string k] 51) (World.block_lt_of_cell? w ⟨b, o, none⟩ hg))).trans hg
  have HL := Lib.hid (alloc_lay w (.cells #[.string f, .string k] 51))
  clear hg
  go_enter Tryz.func32, Tryz.ntmps32
  go_wp2
  go_ret
  exact ⟨rfl, HL.out⟩

/-- Go's '>' on strings, as the model has it. -/
def laterB (e k : ByteArray) : Bool := !Op.bytesLess e.toList k.toList && !(e.toList == k.toList)

set_option maxHeartbeats 400000 in
theorem later_any (e k : ByteArray) (q : Int) (b o b2 o2 bg og n c i : Nat) (w : World) (hi : w.cell? ⟨b, o + 3, none⟩ = some (.slice (some ⟨bg, og, none⟩) n c)) (hi2 : w.cell? ⟨b2, o2, none⟩ = some (.int .i64 i)) (hin : i < n)
    (hg : w.cell? ⟨bg, og + i * 2 + 1, none⟩ = some (.string k)) :
    Calls Tryz.prog 34 #[.agg #[.string e, .int .i64 q], .pointer (some ⟨b, o, none⟩), .pointer (some ⟨b2, o2, none⟩)] w fun e' w' => e' = .returned (.bool (laterB e k)) ∧ Below w.heap.size w w' := by
  have k1 := (World.cell?_of_block (heap_alloc_old w (.cells #[.string e, .int .i64 q] 69) (World.block_lt_of_cell? w ⟨b, o + 3, none⟩ hi))).trans hi
  have k2 := (World.cell?_of_block (heap_alloc_old w (.cells #[.string e, .int .i64 q] 69) (World.block_lt_of_cell? w ⟨b2, o2, none⟩ hi2))).trans hi2
  have k3 := (World.cell?_of_block (heap_alloc_old w (.cells #[.string e, .int .i64 q] 69) (World.block_lt_of_cell? w ⟨bg, og + i * 2 + 1, none⟩ hg))).trans hg
  have k0 := box_cell w #[.string e, .int .i64 q] 69 0 (u := .string e) rfl
  have HL := Lib.hid (alloc_lay w (.cells #[.string e, .int .i64 q] 69)).1
  clear hi hi2 hg
  go_enter Tryz.func34, Tryz.ntmps34
  go_wp2
  generalize w.alloc (.cells #[.string e, .int .i64 q] 69) = w1 at *
  go_quiet (fail)
  go_wp2
  go_ret
  exact ⟨rfl, below_drewN HL.out _⟩

theorem compareBytes_eq : ∀ x y : List UInt8, Lib.compareBytes x y = if Op.bytesLess x y then -1 else if x == y then 0 else 1
  | [], [] => rfl
  | [], _ :: _ => rfl
  | _ :: _, [] => rfl
  | a :: x, b :: y => by
    rw [Lib.compareBytes, Op.bytesLess, compareBytes_eq x y]
    by_cases h1 : a < b
    · simp [h1]
    · by_cases h2 : b < a
      · have h3 : a ≠ b := fun h => by subst h; exact h1 h2
        simp [h1, h2, h3]
      · have h3 : a = b := UInt8.le_antisymm (UInt8.not_lt.1 h2) (UInt8.not_lt.1 h1)
        subst h3
        simp [h1]

theorem compareBytes_cmpS (a b : ByteArray) : Lib.compareBytes a.data.toList b.data.toList = cmpS a b := by
  rw [compareBytes_eq]
  unfold cmpS
  simp [Lib.toList_data]

set_option maxHeartbeats 400000 in
theorem byKey_any (a b : ByteArray) (x y : Int) (w : World) :
    Calls Tryz.prog 64 #[.agg #[.string a, .int .i64 x], .agg #[.string b, .int .i64 y]] w fun e w' => e = .returned (.int .i64 (cmpS a b)) ∧ Lay w w' := by
  have hcon := fun W => Tryz.strings_Compare a b W
  rw [compareBytes_cmpS] at hcon
  have HL := Lib.hid ((alloc_lay w (.cells #[.string a, .int .i64 x] 69)).trans (alloc_lay _ (.cells #[.string b, .int .i64 y] 69)))
  go_enter Tryz.func64, Tryz.ntmps64
  go_wp2_with fail
  refine (hcon _).mono ?_
  rintro e w' ⟨rfl, rfl⟩
  go_wp2
  go_ret
  exact ⟨rfl, HL.out⟩
end Go.Proofs.YtjeafniglnnkhaaGreatDoor
