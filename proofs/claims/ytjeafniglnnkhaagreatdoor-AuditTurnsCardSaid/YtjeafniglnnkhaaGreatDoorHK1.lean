/- Walks: cover.sign, cover.dollar, cover.levels, cover.answer, cover.other, cover.least. -/
/- Walks: cover.dollar, cover.other, cover.least. -/
/- Walks: cover.told of levels that are a topic. -/
/- Walks: cover.outside's methods ends, at, rest at a filter of two levels. -/
import Derived.Test.YtjeafniglnnkhaaGreatDoorHA9
import Derived.Test.YtjeafniglnnkhaaGreatDoorHW0
namespace Go.Proofs.YtjeafniglnnkhaaGreatDoor
open Go.RowKit

def signS (s : ByteArray) : Bool := s.toList == [43] || s.toList == [35]

theorem sign_any (s : ByteArray) (w : World) : Calls Tryz.prog 81 #[.string s] w fun e w' => e = .returned (.bool (signS s)) ∧ w' = w := by
  by_cases h1 : (s.toList == [43]) = true
  · have H := Lib.hid (show signS s = true by simp [signS, h1])
    go_enter Tryz.func81, Tryz.ntmps81
    go_wp2
    go_ret
    exact ⟨by rw [H.out]; rfl, rfl⟩
  · have h1' : (s.toList == [43]) = false := by simpa using h1
    have H := Lib.hid (show signS s = (s.toList == [35]) by simp [signS, h1'])
    clear h1
    go_enter Tryz.func81, Tryz.ntmps81
    go_wp2
    go_ret
    exact ⟨by rw [H.out]; rfl, rfl⟩

def dollarS (s : ByteArray) : Bool := [36].isPrefixOf s.toList

theorem answer_any (s : ByteArray) (ok : Bool) (w : World) : Calls Tryz.prog 84 #[.string s, .bool ok] w fun e w' => e = .returned (if ok then .tuple #[.string s, .bool true] else .tuple #[.string ⟨#[]⟩, .bool false]) ∧ w' = w := by
  cases ok
  · go_enter Tryz.func84, Tryz.ntmps84
    go_wp2
    go_ret2
    exact ⟨rfl, rfl⟩
  · go_enter Tryz.func84, Tryz.ntmps84
    go_wp2
    go_ret2
    exact ⟨rfl, rfl⟩

set_option maxHeartbeats 400000 in
theorem lvs_any (f : ByteArray) (w : World) (hf : f.size ≤ 1000000) (h1 : sharedS f = none) (h2 : filterS f = 0) :
    Calls Tryz.prog 80 #[.string f] w fun e w' => ∃ v, e = .returned (.tuple #[v, .bool true]) ∧ IsStrs w' w'.heap.size v (levelsS f) ∧ Below w.heap.size w w' := by
  have HC := fun W => Lib.hid (show Calls Tryz.prog 8 #[.string f] W fun e w' => e = .returned (.tuple #[.string ⟨#[]⟩, .string ⟨#[]⟩, .bool false]) ∧ Below W.heap.size W w' by have h := shared_any f W hf; rw [h1] at h; exact h)
  have HF := fun W => Lib.hid (show Calls Tryz.prog 38 #[.string f] W fun e w' => e = .returned (.int .i64 0) ∧ Below W.heap.size W w' by have h := filter_any f W hf; rw [h2] at h; exact h)
  clear h1 h2
  go_enter Tryz.func80, Tryz.ntmps80
  go_wp2_with fail
  refine (HC _).out.mono ?_
  rintro e w1 ⟨rfl, hb1⟩
  go_wp2_with fail
  refine (HF _).out.mono ?_
  rintro e w2 ⟨rfl, hb2⟩
  have hb12 := hb1.trans (hb2.mono hb1.size)
  go_wp2_with fail
  refine (levels_any f w2 hf).mono ?_
  rintro e w3 ⟨v, rfl, hown, hb3⟩
  go_wp2
  go_ret2
  exact ⟨v, rfl, IsStrs.of_owns hown, hb12.trans (hb3.mono hb12.size)⟩
end Go.Proofs.YtjeafniglnnkhaaGreatDoor

namespace Go.Proofs.YtjeafniglnnkhaaGreatDoor
open Go.RowKit

theorem dollar_any (s : ByteArray) (w : World) : Calls Tryz.prog 82 #[.string s] w fun e w' => e = .returned (.bool (Lib.hasPrefix s.data.toList [36])) ∧ w' = w := by
  have hcon := fun W => Tryz.strings_HasPrefix s ⟨#[36]⟩ W
  go_enter Tryz.func82, Tryz.ntmps82
  go_wp2_with fail
  refine (hcon _).mono ?_
  rintro e w' ⟨rfl, rfl⟩
  go_wp2
  go_ret
  exact ⟨rfl, rfl⟩

def otherS (s : ByteArray) : ByteArray := if s.toList.isEmpty then ⟨#[97]⟩ else ⟨#[]⟩

theorem other_any (s : ByteArray) (w : World) : Calls Tryz.prog 140 #[.string s] w fun e w' => e = .returned (.string (otherS s)) ∧ w' = w := by
  by_cases h : s.toList.isEmpty = true
  · have H := Lib.hid (show otherS s = ⟨#[97]⟩ by unfold otherS; rw [if_pos h])
    go_enter Tryz.func140, Tryz.ntmps140
    go_wp2
    go_ret
    exact ⟨by rw [H.out]; rfl, rfl⟩
  · have h' : s.toList.isEmpty = false := by simpa using h
    have H := Lib.hid (show otherS s = ⟨#[]⟩ by unfold otherS; rw [h']; rfl)
    clear h
    go_enter Tryz.func140, Tryz.ntmps140
    go_wp2
    go_ret
    exact ⟨by rw [H.out]; rfl, rfl⟩

def leastS : List ByteArray → List ByteArray
  | [] => []
  | l :: r => if l.toList == [35] then [] else if l.toList == [43] then ⟨#[]⟩ :: leastS r else l :: leastS r

theorem leastS_len : ∀ l, (leastS l).length ≤ l.length
  | [] => by simp [leastS]
  | x :: l => by
    have := leastS_len l
    unfold leastS
    split
    · simp
    · split <;> simp <;> omega

theorem least_end (l : List ByteArray) (k : Nat) (h : k < l.length) (hc : (l[k].toList == [35]) = true) : leastS (l.drop k) = [] := by
  rw [List.drop_eq_getElem_cons h, leastS, if_pos hc]
theorem least_plus (l : List ByteArray) (k : Nat) (h : k < l.length) (hc : (l[k].toList == [35]) = false) (hp : (l[k].toList == [43]) = true) : leastS (l.drop k) = ⟨#[]⟩ :: leastS (l.drop (k + 1)) := by
  rw [List.drop_eq_getElem_cons h, leastS, if_neg (by rw [hc]; simp), if_pos hp]
theorem least_else (l : List ByteArray) (k : Nat) (h : k < l.length) (hc : (l[k].toList == [35]) = false) (hp : (l[k].toList == [43]) = false) : leastS (l.drop k) = l[k] :: leastS (l.drop (k + 1)) := by
  rw [List.drop_eq_getElem_cons h, leastS, if_neg (by rw [hc]; simp), if_neg (by rw [hp]; simp)]

set_option maxRecDepth 100000 in
set_option maxHeartbeats 1000000 in
theorem least_any (v : Value) (l : List ByteArray) (B : Nat) (w : World) (h : IsStrs w B v l) (hB : B ≤ w.heap.size) (hl : l.length ≤ 1000000) :
    Calls Tryz.prog 83 #[v] w fun e w' => ∃ v', e = .returned v' ∧ w'.ownsRow w.heap.size 9 1 v' (leastS l).length ((leastS l).map .string) ∧ Below w.heap.size w w' := by
  obtain ⟨A, c, rfl, hc, hA⟩ := h
  obtain ⟨i0, hi, hz0, hz1, hz2⟩ := info_parts info9
  go_enter Tryz.func83, Tryz.ntmps83
  go_wp2
  go_loopw [3, 8] (fun o i wr => ∃ (k : Nat) (acc : List ByteArray), i = .int .i64 k ∧ k ≤ l.length ∧ acc.length ≤ k ∧ wr.ownsRow w.heap.size 9 1 o acc.length (acc.map .string) ∧ Hid (acc ++ leastS (l.drop k) = leastS l) ∧ Below w.heap.size w wr) (fun _ i _ => l.length - (intOf i).toNat)
  case atStart => exact ⟨0, [], rfl, by omega, by simp, World.ownsRow_nil _ _ _ _, rfl, Below.refl _ _⟩
  case round =>
    obtain ⟨k, acc, rfl, hk, hacc, hown, HC, hb⟩ := hrel
    have hwr := hb.size
    by_cases hlt : k < l.length
    · obtain ⟨b, o, rfl, hbB, hcell⟩ := hA (by omega)
      have g0 := (hb.cell (p := ⟨b, o + k, none⟩) (by show b < w.heap.size; omega)).trans (hcell k hlt)
      have hal : acc.length ≤ 10000000 := by omega
      cases hs : (l[k].toList == [35])
      · cases hp : (l[k].toList == [43])
        · have HN := Lib.hid (show (acc ++ [l[k]]) ++ leastS (l.drop (k + 1)) = leastS l by rw [← HC.out, least_else l k hlt hs hp]; simp)
          generalize l[k] = x at *
          clear hcell hA
          go_wp2_with (first | (at_builtin; refine wpList_app rfl _ _ 78 rfl w.heap.size 9 i0 _ 1 16 Tryz.underlying78 hi hz0 hz1 hz2 rfl (by decide) _ _ _ rfl hown [.string x] rfl rfl (by intro u hu; simp at hu; subst hu; rfl) hal (by decide) hwr ?_; intro v' w6 hown6 hbel6 hsz6 hdr6 hg6; go_frame))
          go_roundw
          case rel => exact ⟨k + 1, acc ++ [x], by go_num, by omega, by simp; omega, by simpa using hown6, HN, hb.trans hbel6⟩
          case measure => simp [intOf]; omega
        · have HN := Lib.hid (show (acc ++ [⟨#[]⟩]) ++ leastS (l.drop (k + 1)) = leastS l by rw [← HC.out, least_plus l k hlt hs hp]; simp)
          generalize l[k] = x at *
          clear hcell hA
          go_wp2_with (first | (at_builtin; refine wpList_app rfl _ _ 78 rfl w.heap.size 9 i0 _ 1 16 Tryz.underlying78 hi hz0 hz1 hz2 rfl (by decide) _ _ _ rfl hown [.string ⟨#[]⟩] rfl rfl (by intro u hu; simp at hu; subst hu; rfl) hal (by decide) hwr ?_; intro v' w6 hown6 hbel6 hsz6 hdr6 hg6; go_frame))
          go_roundw
          case rel => exact ⟨k + 1, acc ++ [⟨#[]⟩], by go_num, by omega, by simp; omega, by simpa using hown6, HN, hb.trans hbel6⟩
          case measure => simp [intOf]; omega
      · have HN := Lib.hid (show acc = leastS l by rw [← HC.out, least_end l k hlt hs]; simp)
        generalize l[k] = x at *
        clear hcell hA
        go_wp2
        go_ret
        exact ⟨_, rfl, by rw [← HN.out]; exact hown, hb⟩
    · have HN := Lib.hid (show acc = leastS l by rw [← HC.out, List.drop_of_length_le (by omega)]; simp [leastS])
      go_wp2
      go_ret
      exact ⟨_, rfl, by rw [← HN.out]; exact hown, hb⟩
end Go.Proofs.YtjeafniglnnkhaaGreatDoor

namespace Go.Proofs.YtjeafniglnnkhaaGreatDoor
open Go.RowKit

theorem joins_any (v : Value) (l : List ByteArray) (w : World) (h : IsStrs w w.heap.size v l) (h0 : l.length ≠ 0) (hl : l.length ≤ 10000000) (hj : (joinS l).size ≤ 1000000) :
    Calls Tryz.prog 68 #[v, .string ⟨#[47]⟩] w fun e w' => e = .returned (.string (joinS l)) ∧ Below w.heap.size w w' := by
  obtain ⟨A, c, rfl, hc, hA⟩ := h
  have hj' : (Lib.join (l.map (·.data.toList)) [47]).length ≤ 1000000 := by
    have : (joinS l).size = (Lib.join (l.map (·.data.toList)) [47]).length := by
      show (Lib.join _ _).toArray.size = _
      simp
    omega
  obtain ⟨b, o, rfl, hb, hcell⟩ := hA (by omega)
  exact Tryz.strings_Join b o c l ⟨#[47]⟩ w (fun j x hx => by
    obtain ⟨hlt, rfl⟩ := List.getElem?_eq_some_iff.1 hx
    exact hcell j hlt) hb (by omega) hc (by
      show (Lib.join _ [47]).length ≤ _
      omega)

set_option maxHeartbeats 400000 in
theorem told_any (v v3 : Value) (free : Bool) (l : List ByteArray) (w : World) (h : IsStrs w w.heap.size v l) (h0 : l.length ≠ 0) (h1 : ∀ x, l = [x] → x.toList.isEmpty = false) (hl : l.length ≤ 10000000) (hj : (joinS l).size ≤ 65535) :
    Calls Tryz.prog 85 #[v, .bool free, v3] w fun e w' => e = .returned (.tuple #[.string (joinS l), .bool true]) ∧ Below w.heap.size w w' := by
  have HJ := Lib.hid (joins_any v l w h h0 hl (by omega))
  have HS := Lib.hid hj
  obtain ⟨A, c, rfl, hc, hA⟩ := h
  have hle : decide (((joinS l).size : Int) ≤ 65535) = true := decide_eq_true (by omega)
  generalize joinS l = s at *
  by_cases h2 : l.length = 1
  · obtain ⟨x, rfl⟩ : ∃ x, l = [x] := List.length_eq_one_iff.1 h2
    have hx := h1 x rfl
    obtain ⟨b, o, rfl, hb, hcell⟩ := hA (by simp)
    have g0 : w.cell? ⟨b, o, none⟩ = some (.string x) := hcell 0 (by simp)
    clear hcell hA h1 h2 h0
    go_enter Tryz.func85, Tryz.ntmps85
    go_wp2_with fail
    refine HJ.out.mono ?_
    rintro e w1 ⟨rfl, hb1⟩
    go_wp2
    go_ret2
    exact ⟨rfl, hb1⟩
  · have e0 : ((l.length : Int) == 0) = false := by rw [beq_eq_false_iff_ne]; omega
    have e1 : ((l.length : Int) == 1) = false := by rw [beq_eq_false_iff_ne]; omega
    clear hA h1
    generalize l.length = n at *
    clear h2 h0
    go_enter Tryz.func85, Tryz.ntmps85
    go_wp2_with fail
    refine HJ.out.mono ?_
    rintro e w1 ⟨rfl, hb1⟩
    go_wp2
    go_ret2
    exact ⟨rfl, hb1⟩
end Go.Proofs.YtjeafniglnnkhaaGreatDoor

namespace Go.Proofs.YtjeafniglnnkhaaGreatDoor
open Go.RowKit

/-- The search's record: at block b, its filter of two levels x, y. -/
structure OutIs (w : World) (b bf o cf : Nat) (x y : ByteArray) : Prop where
  f : w.cell? ⟨b, 1, none⟩ = some (.slice (some ⟨bf, o, none⟩) 2 cf)
  x : w.cell? ⟨bf, o, none⟩ = some (.string x)
  y : w.cell? ⟨bf, o + 1, none⟩ = some (.string y)

theorem ends_zero (b : Nat) (bf o cf : Nat) (x y : ByteArray) (w : World) (h : OutIs w b bf o cf x y) :
    Calls Tryz.prog 137 #[.pointer (some ⟨b, 0, none⟩), .int .i64 0] w fun e w' => e = .returned (.bool false) ∧ w' = w := by
  obtain ⟨h1, h2, h3⟩ := h
  go_enter Tryz.func137, Tryz.ntmps137
  go_wp2
  go_ret
  exact ⟨rfl, rfl⟩

theorem ends_one (b : Nat) (bf o cf : Nat) (x y : ByteArray) (w : World) (h : OutIs w b bf o cf x y) (hy : (y.toList == [35]) = false) :
    Calls Tryz.prog 137 #[.pointer (some ⟨b, 0, none⟩), .int .i64 1] w fun e w' => e = .returned (.bool false) ∧ w' = w := by
  obtain ⟨h1, h2, h3⟩ := h
  go_enter Tryz.func137, Tryz.ntmps137
  go_wp2
  go_ret
  exact ⟨rfl, rfl⟩

theorem ends_two (b : Nat) (bf o cf : Nat) (x y : ByteArray) (w : World) (h : OutIs w b bf o cf x y) :
    Calls Tryz.prog 137 #[.pointer (some ⟨b, 0, none⟩), .int .i64 2] w fun e w' => e = .returned (.bool true) ∧ w' = w := by
  obtain ⟨h1, h2, h3⟩ := h
  go_enter Tryz.func137, Tryz.ntmps137
  go_wp2
  go_ret
  exact ⟨rfl, rfl⟩

theorem at_zero (b : Nat) (bf o cf : Nat) (x y : ByteArray) (w : World) (h : OutIs w b bf o cf x y) (hx : signS x = false) :
    Calls Tryz.prog 138 #[.pointer (some ⟨b, 0, none⟩), .int .i64 0] w fun e w' => e = .returned (.tuple #[.string x, .bool false, .bool true]) ∧ w' = w := by
  obtain ⟨h1, h2, h3⟩ := h
  go_enter Tryz.func138, Tryz.ntmps138
  go_wp2_with fail
  refine (sign_any x w).mono ?_
  rintro e w' ⟨rfl, rfl⟩
  go_wp2
  go_ret3
  exact ⟨rfl, rfl⟩

theorem at_one (b : Nat) (bf o cf : Nat) (x y : ByteArray) (w : World) (h : OutIs w b bf o cf x y) (hy : signS y = false) :
    Calls Tryz.prog 138 #[.pointer (some ⟨b, 0, none⟩), .int .i64 1] w fun e w' => e = .returned (.tuple #[.string y, .bool false, .bool true]) ∧ w' = w := by
  obtain ⟨h1, h2, h3⟩ := h
  go_enter Tryz.func138, Tryz.ntmps138
  go_wp2_with fail
  refine (sign_any y w).mono ?_
  rintro e w' ⟨rfl, rfl⟩
  go_wp2
  go_ret3
  exact ⟨rfl, rfl⟩

theorem at_sign (b : Nat) (bf o cf : Nat) (x y : ByteArray) (w : World) (h : OutIs w b bf o cf x y) (hy : signS y = true) :
    Calls Tryz.prog 138 #[.pointer (some ⟨b, 0, none⟩), .int .i64 1] w fun e w' => e = .returned (.tuple #[.string ⟨#[]⟩, .bool true, .bool true]) ∧ w' = w := by
  obtain ⟨h1, h2, h3⟩ := h
  go_enter Tryz.func138, Tryz.ntmps138
  go_wp2_with fail
  refine (sign_any y w).mono ?_
  rintro e w' ⟨rfl, rfl⟩
  go_wp2
  go_ret3
  exact ⟨rfl, rfl⟩

theorem at_end (b : Nat) (bf o cf : Nat) (x y : ByteArray) (w : World) (h : OutIs w b bf o cf x y) (hy : (y.toList == [35]) = false) :
    Calls Tryz.prog 138 #[.pointer (some ⟨b, 0, none⟩), .int .i64 2] w fun e w' => e = .returned (.tuple #[.string ⟨#[]⟩, .bool false, .bool false]) ∧ w' = w := by
  obtain ⟨h1, h2, h3⟩ := h
  go_enter Tryz.func138, Tryz.ntmps138
  go_wp2
  go_ret3
  exact ⟨rfl, rfl⟩

theorem rest_two (b : Nat) (bf o cf : Nat) (x y : ByteArray) (w : World) (h : OutIs w b bf o cf x y) :
    Calls Tryz.prog 175 #[.pointer (some ⟨b, 0, none⟩), .int .i64 2] w fun e w' => e = .returned (.slice none 0 0) ∧ w' = w := by
  obtain ⟨h1, h2, h3⟩ := h
  go_enter Tryz.func175, Tryz.ntmps175
  go_wp2
  go_ret
  exact ⟨rfl, rfl⟩
end Go.Proofs.YtjeafniglnnkhaaGreatDoor
