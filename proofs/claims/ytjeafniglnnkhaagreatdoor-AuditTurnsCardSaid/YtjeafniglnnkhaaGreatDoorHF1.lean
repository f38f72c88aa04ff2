/- Walks: sameSpares, sameEntries, sameShares, sameFaults of two lists that read the same. -/
import Derived.Test.YtjeafniglnnkhaaGreatDoorHW0
namespace Go.Proofs.YtjeafniglnnkhaaGreatDoor
open Go.RowKit

/-- The cells of element i of a list. -/
def EncCells {α : Type} (enc : α → List Value) (l : List α) (i : Nat) (cs : List Value) : Prop := ∃ h : i < l.length, cs = enc l[i]

def encSp (s : ByteArray × ByteArray × ByteArray) : List Value := [.string s.1, .string s.2.1, .string s.2.2]
def encFa (s : Int × Int) : List Value := [.int .i64 s.1, .int .i64 s.2]
def encEn (s : ByteArray × Int) : List Value := [.string s.1, .int .i64 s.2]
def encSh (s : ByteArray × ByteArray × Int) : List Value := [.string s.1, .string s.2.1, .int .i64 s.2.2]

theorem IsRows.enc_at {α : Type} {enc : α → List Value} {w : World} {B size : Nat} {v : Value} {l : List α} (h : IsRows w B size v l.length (EncCells enc l)) {k : Nat} (hk : k < l.length) :
    ∃ b o c, v = .slice (some ⟨b, o, none⟩) l.length c ∧ b < B ∧ l.length ≤ c ∧ ∀ (j : Nat) u, (enc l[k])[j]? = some u → w.cell? ⟨b, o + k * size + j, none⟩ = some u := by
  obtain ⟨A, c, rfl, hc, hn, hA⟩ := h
  obtain ⟨b, o, rfl, hb, hcell⟩ := hA (by omega)
  obtain ⟨cs, ⟨_, rfl⟩, hcs⟩ := hcell k hk
  exact ⟨b, o, c, rfl, hb, hc, hcs⟩

theorem IsRows.enc_val {α : Type} {enc : α → List Value} {w : World} {B size : Nat} {v : Value} {l : List α} (h : IsRows w B size v l.length (EncCells enc l)) : ∃ A c, v = .slice A l.length c ∧ l.length ≤ 1152921504606846976 := by
  obtain ⟨A, c, rfl, hc, hn, hA⟩ := h
  exact ⟨A, c, rfl, hn⟩

set_option maxHeartbeats 1000000 in
theorem sameSpares_yes (va vb : Value) (l : List (ByteArray × ByteArray × ByteArray)) (w : World) (B B' : Nat) (ha : IsRows w B 3 va l.length (EncCells encSp l)) (hb : IsRows w B' 3 vb l.length (EncCells encSp l)) :
    Calls Tryz.prog 17 #[va, vb] w fun e w' => e = .returned (.bool true) ∧ ∃ n, w' = w.drewN n := by
  have HA := Lib.hid ha
  have HB := Lib.hid hb
  obtain ⟨A, c, rfl, hn⟩ := ha.enc_val
  obtain ⟨A', c', rfl, hn'⟩ := hb.enc_val
  clear ha hb
  go_enter Tryz.func17, Tryz.ntmps17
  go_wp2
  go_loopw [5] (fun i wr => ∃ k d : Nat, i = .int .i64 k ∧ k ≤ l.length ∧ wr = w.drewN d) (fun i _ => l.length - (intOf i).toNat)
  case atStart => exact ⟨0, 0, rfl, by omega, rfl⟩
  case round =>
    obtain ⟨k, d, rfl, hk, rfl⟩ := hrel
    by_cases hlt : k < l.length
    · obtain ⟨b1, o1, c1, e1, _, _, hc1⟩ := HA.out.enc_at hlt
      cases e1
      obtain ⟨b2, o2, c2, e2, _, _, hc2⟩ := HB.out.enc_at hlt
      cases e2
      have x0 := hc1 0 _ rfl
      have x1 := hc1 1 _ rfl
      have x2 := hc1 2 _ rfl
      have y0 := hc2 0 _ rfl
      have y1 := hc2 1 _ rfl
      have y2 := hc2 2 _ rfl
      clear hc1 hc2
      go_wp2_with fail
      generalize l[k] = sk at *
      have y0' : w.cell? ⟨b2, o2 + k * 3, none⟩ = some (.string sk.1) := y0
      have x0' : w.cell? ⟨b1, o1 + k * 3, none⟩ = some (.string sk.1) := x0
      clear x0 y0
      have hk0 : (0 : Int) ≤ (k : Int) := by omega
      have hk1 : (k : Int) < (l.length : Int) := by omega
      go_quiet ((fail))
      go_wp2
      go_roundw
      case rel => exact ⟨k + 1, _, by go_num, by omega, rfl⟩
      case measure => simp [intOf]; omega
    · go_wp2
      go_ret
      exact ⟨rfl, d, rfl⟩
set_option maxHeartbeats 1000000 in
theorem sameEntries_yes (va vb : Value) (l : List (ByteArray × Int)) (w : World) (B B' : Nat) (ha : IsRows w B 2 va l.length (EncCells encEn l)) (hb : IsRows w B' 2 vb l.length (EncCells encEn l)) :
    Calls Tryz.prog 21 #[va, vb] w fun e w' => e = .returned (.bool true) ∧ ∃ n, w' = w.drewN n := by
  have HA := Lib.hid ha
  have HB := Lib.hid hb
  obtain ⟨A, c, rfl, hn⟩ := ha.enc_val
  obtain ⟨A', c', rfl, hn'⟩ := hb.enc_val
  clear ha hb
  go_enter Tryz.func21, Tryz.ntmps21
  go_wp2
  go_loopw [5] (fun i wr => ∃ k d : Nat, i = .int .i64 k ∧ k ≤ l.length ∧ wr = w.drewN d) (fun i _ => l.length - (intOf i).toNat)
  case atStart => exact ⟨0, 0, rfl, by omega, rfl⟩
  case round =>
    obtain ⟨k, d, rfl, hk, rfl⟩ := hrel
    by_cases hlt : k < l.length
    · obtain ⟨b1, o1, c1, e1, _, _, hc1⟩ := HA.out.enc_at hlt
      cases e1
      obtain ⟨b2, o2, c2, e2, _, _, hc2⟩ := HB.out.enc_at hlt
      cases e2
      have x0 := hc1 0 _ rfl
      have x1 := hc1 1 _ rfl
      have y0 := hc2 0 _ rfl
      have y1 := hc2 1 _ rfl
      clear hc1 hc2
      go_wp2_with fail
      generalize l[k] = sk at *
      have y0' : w.cell? ⟨b2, o2 + k * 2, none⟩ = some (.string sk.1) := y0
      have x0' : w.cell? ⟨b1, o1 + k * 2, none⟩ = some (.string sk.1) := x0
      clear x0 y0
      have hk0 : (0 : Int) ≤ (k : Int) := by omega
      have hk1 : (k : Int) < (l.length : Int) := by omega
      go_quiet ((fail))
      go_wp2
      go_roundw
      case rel => exact ⟨k + 1, _, by go_num, by omega, rfl⟩
      case measure => simp [intOf]; omega
    · go_wp2
      go_ret
      exact ⟨rfl, d, rfl⟩
set_option maxHeartbeats 1000000 in
theorem sameShares_yes (va vb : Value) (l : List (ByteArray × ByteArray × Int)) (w : World) (B B' : Nat) (ha : IsRows w B 3 va l.length (EncCells encSh l)) (hb : IsRows w B' 3 vb l.length (EncCells encSh l)) :
    Calls Tryz.prog 23 #[va, vb] w fun e w' => e = .returned (.bool true) ∧ ∃ n, w' = w.drewN n := by
  have HA := Lib.hid ha
  have HB := Lib.hid hb
  obtain ⟨A, c, rfl, hn⟩ := ha.enc_val
  obtain ⟨A', c', rfl, hn'⟩ := hb.enc_val
  clear ha hb
  go_enter Tryz.func23, Tryz.ntmps23
  go_wp2
  go_loopw [5] (fun i wr => ∃ k d : Nat, i = .int .i64 k ∧ k ≤ l.length ∧ wr = w.drewN d) (fun i _ => l.length - (intOf i).toNat)
  case atStart => exact ⟨0, 0, rfl, by omega, rfl⟩
  case round =>
    obtain ⟨k, d, rfl, hk, rfl⟩ := hrel
    by_cases hlt : k < l.length
    · obtain ⟨b1, o1, c1, e1, _, _, hc1⟩ := HA.out.enc_at hlt
      cases e1
      obtain ⟨b2, o2, c2, e2, _, _, hc2⟩ := HB.out.enc_at hlt
      cases e2
      have x0 := hc1 0 _ rfl
      have x1 := hc1 1 _ rfl
      have x2 := hc1 2 _ rfl
      have y0 := hc2 0 _ rfl
      have y1 := hc2 1 _ rfl
      have y2 := hc2 2 _ rfl
      clear hc1 hc2
      go_wp2_with fail
      generalize l[k] = sk at *
      have y0' : w.cell? ⟨b2, o2 + k * 3, none⟩ = some (.string sk.1) := y0
      have x0' : w.cell? ⟨b1, o1 + k * 3, none⟩ = some (.string sk.1) := x0
      clear x0 y0
      have hk0 : (0 : Int) ≤ (k : Int) := by omega
      have hk1 : (k : Int) < (l.length : Int) := by omega
      go_quiet ((fail))
      go_wp2
      go_roundw
      case rel => exact ⟨k + 1, _, by go_num, by omega, rfl⟩
      case measure => simp [intOf]; omega
    · go_wp2
      go_ret
      exact ⟨rfl, d, rfl⟩
set_option maxHeartbeats 1000000 in
theorem sameFaults_yes (va vb : Value) (l : List (Int × Int)) (w : World) (B B' : Nat) (ha : IsRows w B 2 va l.length (EncCells encFa l)) (hb : IsRows w B' 2 vb l.length (EncCells encFa l)) :
    Calls Tryz.prog 24 #[va, vb] w fun e w' => e = .returned (.bool true) ∧ ∃ n, w' = w.drewN n := by
  have HA := Lib.hid ha
  have HB := Lib.hid hb
  obtain ⟨A, c, rfl, hn⟩ := ha.enc_val
  obtain ⟨A', c', rfl, hn'⟩ := hb.enc_val
  clear ha hb
  go_enter Tryz.func24, Tryz.ntmps24
  go_wp2
  go_loopw [5] (fun i wr => ∃ k d : Nat, i = .int .i64 k ∧ k ≤ l.length ∧ wr = w.drewN d) (fun i _ => l.length - (intOf i).toNat)
  case atStart => exact ⟨0, 0, rfl, by omega, rfl⟩
  case round =>
    obtain ⟨k, d, rfl, hk, rfl⟩ := hrel
    by_cases hlt : k < l.length
    · obtain ⟨b1, o1, c1, e1, _, _, hc1⟩ := HA.out.enc_at hlt
      cases e1
      obtain ⟨b2, o2, c2, e2, _, _, hc2⟩ := HB.out.enc_at hlt
      cases e2
      have x0 := hc1 0 _ rfl
      have x1 := hc1 1 _ rfl
      have y0 := hc2 0 _ rfl
      have y1 := hc2 1 _ rfl
      clear hc1 hc2
      go_wp2_with fail
      generalize l[k] = sk at *
      have y0' : w.cell? ⟨b2, o2 + k * 2, none⟩ = some (.int .i64 sk.1) := y0
      have x0' : w.cell? ⟨b1, o1 + k * 2, none⟩ = some (.int .i64 sk.1) := x0
      clear x0 y0
      have hk0 : (0 : Int) ≤ (k : Int) := by omega
      have hk1 : (k : Int) < (l.length : Int) := by omega
      go_quiet ((fail))
      go_wp2
      go_roundw
      case rel => exact ⟨k + 1, _, by go_num, by omega, rfl⟩
      case measure => simp [intOf]; omega
    · go_wp2
      go_ret
      exact ⟨rfl, d, rfl⟩
end Go.Proofs.YtjeafniglnnkhaaGreatDoor
