/- Walks: strings.IndexRune and strings.ContainsAny at "+#". -/
import Derived.Test.YtjeafniglnnkhaaGreatDoorHA3
import Derived.WalkMore
import Derived.Deep.QuietTactic
import Derived.BigQuiet
namespace Go.Proofs.YtjeafniglnnkhaaGreatDoor
open Go.RowKit

def signs : ByteArray := ⟨#[43, 35]⟩

theorem decode_valid (s : ByteArray) (pos : Nat) (h : 128 ≤ (Utf8.decode s pos).1) : Utf8.valid ((Utf8.decode s pos).1 : Int) = true ∧ (Utf8.decode s pos).1 ≤ 1114111 := by
  have hb : ∀ k, (s.get! (pos + k)).toNat < 256 := fun k => (s.get! (pos + k)).toNat_lt
  have h0 := hb 0; have h1 := hb 1; have h2 := hb 2; have h3 := hb 3
  revert h
  simp only [Utf8.decode]
  repeat' split
  all_goals simp_all [Utf8.runeError, Utf8.valid]
  all_goals omega

set_option maxRecDepth 100000 in
set_option maxHeartbeats 400000 in
theorem indexRune_bad (w : World) :
    Calls Tryz.prog 131 #[.string signs, .int .i32 65533] w fun e w' => e = .returned (.int .i64 (-1)) ∧ Below w.heap.size w w' := by
  go_enter Tryz.func131, Tryz.ntmps131
  go_wp2
  go_loopw [] (fun w' => ∃ (pos : Nat), w' = w.iter signs pos ∧ pos ≤ 2) (fun w' => 2 - w'.iterPos w.heap.size)
  case atStart => exact ⟨0, rfl, by omega⟩
  case round =>
    obtain ⟨pos, rfl, hp⟩ := hrel
    have d0 : Utf8.decode signs 0 = (43, 1) := by decide
    have d1 : Utf8.decode signs 1 = (35, 1) := by decide
    by_cases hlt : pos < 2
    · have hdec : ∃ c : Nat, Utf8.decode signs pos = (c, 1) ∧ c < 65533 := by
        match pos, hlt with
        | 0, _ => exact ⟨43, d0, by omega⟩
        | 1, _ => exact ⟨35, d1, by omega⟩
      obtain ⟨c, hc, hcl⟩ := hdec
      have hnx : ∀ ty, (Instr.next (.pointer (some ⟨w.heap.size, 0, none⟩)) true ty).run Tryz.prog (w.iter signs pos) = .ok (.tuple #[.bool true, .int .i64 pos, .int .i32 (c : Int)]) (w.iter signs (pos + 1)) := fun ty => by
        have := run_next_any (P := Tryz.prog) w signs pos ty hlt
        rwa [hc] at this
      have hce : ((c : Int) == 65533) = false := by simp; omega
      clear hc d0 d1
      go_wp2
      go_roundw
      case rel => exact ⟨pos + 1, rfl, by omega⟩
      case measure => simp; omega
    · obtain rfl : pos = 2 := by omega
      have hnx : ∀ ty, (Instr.next (.pointer (some ⟨w.heap.size, 0, none⟩)) true ty).run Tryz.prog (w.iter signs 2) = _ := fun ty => run_next_end w signs 2 ty (by decide)
      clear d0 d1
      go_wp2
      go_ret
      exact ⟨rfl, (Below.refl _ _).alloc (Nat.le_refl _) _⟩

set_option maxRecDepth 100000 in
set_option maxHeartbeats 400000 in
theorem indexRune_wide (r : Int) (w : World) (h0 : 128 ≤ r) (h1 : r ≤ 1114111) (hv : Utf8.valid r = true) (hne : r ≠ 65533) :
    Calls Tryz.prog 131 #[.string signs, .int .i32 r] w fun e w' => e = .returned (.int .i64 (-1)) ∧ Below w.heap.size w w' := by
  obtain ⟨hs2, hs4, hl⟩ := encode_facts r hv h0
  have hvr : Lib.validRune r = true := by
    rw [validRune_eq] at hv
    exact hv
  have hne' : (r == 65533) = false := by simp [hne]
  go_enter Tryz.func131, Tryz.ntmps131
  go_wp2_with (go_at_call 170; refine (Tryz.utf8_ValidRune _ _).mono ?_; rintro e w' ⟨rfl, rfl⟩)
  go_step3
  go_wp2
  generalize Utf8.encode r = rs at *
  have hss : signs.size = 2 := rfl
  by_cases h2 : rs.size = 2
  · have hl1 := hl (by omega)
    have hidx : rs.size - 1 = 1 := by omega
    obtain ⟨x, hx, hx128⟩ : ∃ x : UInt8, rs[1]'(by omega) = x ∧ 128 ≤ x.toNat := ⟨_, rfl, by simpa [hidx] using hl1⟩
    have hrs : ∀ w, (Instr.index 9 (.string rs) (.int .i64 1)).run Tryz.prog w = .ok (.int .u8 x.toNat) w := fun w => by
      rw [run_index_string _ _ _ _ _ Tryz.underlying9, dif_pos (by omega)]
      subst hx; rfl
    have hsg : ∀ w, (Instr.index 9 (.string signs) (.int .i64 1)).run Tryz.prog w = .ok (.int .u8 35) w := fun w => by
      rw [run_index_string _ _ _ _ _ Tryz.underlying9, dif_pos (by decide)]; rfl
    have hxne : ((35 : Int) != (x.toNat : Int)) = true := by rw [bne_iff_ne]; omega
    refine wp_loop_rounds 1 ?_
    rw [rounds_succ]
    have h2' : (((rs.size : Nat) : Int) - 1) = 1 := by omega
    clear hl hl1 hidx hs2 hs4
    rw [h2']
    go_wp2
    go_step3
    go_wp2
    go_quiet (fail)
    go_wp2
    go_quiet ((go_at_call 169; exact quiet_add_same (Tryz.strings_IndexByte _ _ _)))
    go_wp2
    (repeat (first | rw [Exit.noGoto_ret] | simp only [Exit.inBlock, Exit.then]))
    go_ret
    exact ⟨rfl, below_drewN (Below.refl _ _) _⟩
  · have hi : decide (((rs.size : Nat) : Int) - 1 < 2) = false := by simp; omega
    refine wp_loop_rounds 1 ?_
    rw [rounds_succ]
    go_wp2
    rw [Exit.noGoto_ret]
    go_ret
    exact ⟨rfl, Below.refl _ _⟩

theorem indexByte_signs : ∀ n : Fin 128, decide (0 ≤ Lib.indexByte [43, 35] (n.val).toUInt8) = (decide (n.val = 43) || decide (n.val = 35)) := by decide

theorem indexAny_signs : ∀ l : List UInt8, decide (0 ≤ Lib.indexAny l [43, 35]) = l.any (fun b => b == 43 || b == 35)
  | [] => rfl
  | b :: l => by
    have ih := indexAny_signs l
    have hge := Lib.indexAny_ge [43, 35] l
    have hc : [43, 35].contains b = (b == 43 || b == 35) := by
      rw [Bool.eq_iff_iff]; simp [List.contains_cons]
    rw [Lib.indexAny, List.any_cons, hc, ← ih]
    cases (b == 43 || b == 35) with
    | true => simp
    | false =>
      simp only [Bool.false_eq_true, if_false, Bool.false_or]
      by_cases h : Lib.indexAny l [43, 35] = -1
      · simp [h]
      · have : (Lib.indexAny l [43, 35] == -1) = false := by simpa using h
        rw [this]
        simp; omega

/-- The bytes inside a rune are no signs. -/
theorem decode_inside (s : ByteArray) (pos k : Nat) (h : pos < s.size) (hk0 : 0 < k) (hk : k < (Utf8.decode s pos).2) : pos + k < s.size ∧ 128 ≤ (s.get! (pos + k)).toNat := by
  revert hk
  simp only [Utf8.decode]
  (repeat' split) <;> intro hk <;> simp_all <;> first | omega | skip
  all_goals (have hk3 : k = 1 ∨ k = 2 ∨ k = 3 := by omega)
  all_goals (rcases hk3 with rfl | rfl | rfl <;> first | omega | (constructor <;> omega))

def wildFrom (s : ByteArray) : Nat → Nat → Bool
  | 0, _ => false
  | fuel + 1, pos => if pos < s.size then (decide ((Utf8.decode s pos).1 = 43 ∨ (Utf8.decode s pos).1 = 35)) || wildFrom s fuel (pos + (Utf8.decode s pos).2) else false

theorem wildFrom_end (s : ByteArray) (b pos : Nat) (h : ¬ pos < s.size) : wildFrom s b pos = false := by
  cases b with
  | zero => rfl
  | succ b => simp [wildFrom, h]

theorem wild_skip {s : ByteArray} {b pos : Nat} {x : Bool} (h : wildFrom s (b + 1) pos = x) (hp : pos < s.size) (hs : ¬((Utf8.decode s pos).1 = 43 ∨ (Utf8.decode s pos).1 = 35)) : wildFrom s b (pos + (Utf8.decode s pos).2) = x := by
  rw [wildFrom, if_pos hp] at h
  simpa [hs] using h

def isSign (b : UInt8) : Bool := b == 43 || b == 35
theorem isSign_high (x : UInt8) (h : 128 ≤ x.toNat) : isSign x = false := by
  cases hx : isSign x with
  | false => rfl
  | true =>
    simp [isSign] at hx
    rcases hx with rfl | rfl <;> simp at h
theorem isSign_nat (x : UInt8) : decide (x.toNat = 43 ∨ x.toNat = 35) = isSign x := by
  rw [Bool.eq_iff_iff]; simp [isSign, ← UInt8.toNat_inj]

theorem drop_get (s : ByteArray) (p : Nat) (h : p < s.size) : s.data.toList.drop p = s.get! p :: s.data.toList.drop (p + 1) := by
  have h' : p < s.data.toList.length := by simpa using h
  rw [List.drop_eq_getElem_cons h']
  congr 1
  have := get_at s p h
  simp only [Nat.add_zero] at this
  rw [this]
  rfl

theorem any_inside (s : ByteArray) (pos : Nat) (h : pos < s.size) : ∀ j, j + 1 ≤ (Utf8.decode s pos).2 → (s.data.toList.drop (pos + 1)).any isSign = (s.data.toList.drop (pos + (j + 1))).any isSign
  | 0, _ => rfl
  | j + 1, hj => by
    rw [any_inside s pos h j (by omega)]
    obtain ⟨h1, h2⟩ := decode_inside s pos (j + 1) h (by omega) (by omega)
    rw [drop_get s (pos + (j + 1)) h1, List.any_cons]
    have : isSign (s.get! (pos + (j + 1))) = false := isSign_high _ h2
    rw [this, Bool.false_or]
    rfl

theorem sign_at (s : ByteArray) (pos : Nat) (h : pos < s.size) : decide ((Utf8.decode s pos).1 = 43 ∨ (Utf8.decode s pos).1 = 35) = isSign (s.get! pos) := by
  have hg : s.get! pos = s[pos] := by simpa using get_at s pos h
  rw [hg]
  by_cases ha : (s[pos]'h).toNat < 128
  · rw [decode_ascii s pos h ha]
    exact isSign_nat _
  · have hh := decode_high s pos h (by omega)
    rw [isSign_high _ (by omega)]
    simp; omega

theorem wildFrom_eq (s : ByteArray) : ∀ (b pos : Nat), s.size ≤ pos + b → wildFrom s b pos = (s.data.toList.drop pos).any isSign
  | 0, pos, hb => by rw [List.drop_of_length_le (by simpa using hb)]; rfl
  | b + 1, pos, hb => by
    unfold wildFrom
    split
    · rename_i h
      have hw := width_pos s pos h
      have := any_inside s pos h ((Utf8.decode s pos).2 - 1) (by omega)
      rw [show (Utf8.decode s pos).2 - 1 + 1 = (Utf8.decode s pos).2 by omega] at this
      rw [wildFrom_eq s b _ (by omega), drop_get s pos h, List.any_cons, sign_at s pos h, this]
    · rename_i h
      rw [List.drop_of_length_le (by simpa using h)]; rfl

theorem indexRune_any (r : Nat) (w : World) (hr : r < 128 ∨ (r ≤ 1114111 ∧ Utf8.valid (r : Int) = true)) :
    Calls Tryz.prog 131 #[.string signs, .int .i32 r] w fun e w' => (∃ k : Int, e = .returned (.int .i64 k) ∧ decide (0 ≤ k) = decide (r = 43 ∨ r = 35)) ∧ Below w.heap.size w w' := by
  by_cases h : r < 128
  · refine (Tryz.strings_IndexRune_ascii signs r w (by omega) (by omega)).mono ?_
    rintro e w' ⟨rfl, rfl⟩
    refine ⟨⟨_, rfl, ?_⟩, Below.refl _ _⟩
    have := indexByte_signs ⟨r, h⟩
    simp only [Int.toNat_natCast]
    rw [show signs.data.toList = [43, 35] from rfl, this]
    by_cases h1 : r = 43 <;> by_cases h2 : r = 35 <;> simp [h1, h2]
  · obtain ⟨h1, h2⟩ := hr.resolve_left h
    have hd : decide (r = 43 ∨ r = 35) = false := by simp; omega
    by_cases h3 : r = 65533
    · subst h3
      refine (indexRune_bad w).mono ?_
      rintro e w' ⟨rfl, hb⟩
      exact ⟨⟨_, rfl, by rw [hd]; rfl⟩, hb⟩
    · refine (indexRune_wide r w (by omega) (by omega) h2 (by omega)).mono ?_
      rintro e w' ⟨rfl, hb⟩
      exact ⟨⟨_, rfl, by rw [hd]; rfl⟩, hb⟩

def SomeSign (b : Bool) (B : Nat) (w : World) (e : Ending) (w' : World) : Prop := (∃ k : Int, e = .returned (.int .i64 k) ∧ decide (0 ≤ k) = b) ∧ Below B w w'

set_option maxRecDepth 100000 in
set_option maxHeartbeats 400000 in
theorem indexAny_short (s : ByteArray) (w : World) (hs : s.size ≤ 8) :
    Calls Tryz.prog 92 #[.string s, .string signs] w (SomeSign (wildS s) w.heap.size w) := by
  have hw : wildS s = wildFrom s s.size 0 := by rw [wildFrom_eq s s.size 0 (by omega)]; rfl
  rw [hw]
  have hss : signs.size = 2 := rfl
  have hse : signs.toList.isEmpty = false := by rw [Lib.toList_data]; rfl
  have hs8 : decide ((8 : Int) < (s.size : Int)) = false := by simp; omega
  clear hw
  go_enter Tryz.func92, Tryz.ntmps92
  go_wp2_with (go_at_call 132; refine (Tryz.strings_shouldUseASCIISet _ _).mono ?_; rintro e w' ⟨rfl, hw⟩; rw [hw]; clear hw w')
  go_loopw [] (fun wr => ∃ (pos b : Nat), wr.heap[w.heap.size]? = some (.stringIter s pos) ∧ Below w.heap.size w wr ∧ Hid (wildFrom s b pos = wildFrom s s.size 0) ∧ s.size ≤ pos + b) (fun wr => s.size - wr.iterPos w.heap.size)
  case atStart => exact ⟨0, s.size, World.iter_heap _ _ _, (Below.refl _ _).alloc (Nat.le_refl _) _, rfl, by omega⟩
  case round =>
    obtain ⟨pos, b, hit, hb, HC, hbb⟩ := hrel
    have hwr : w.heap.size < wr.heap.size := (Array.getElem?_eq_some_iff.1 hit).1
    have HIP := Lib.hid (iter_pos hit)
    by_cases hp : pos < s.size
    · obtain ⟨w1, hnx, hit1, hsz1, _, hg1⟩ := iter_next Tryz.prog wr w.heap.size s pos hit hp
      have hwd := width_pos s pos hp
      have hb1 := hb.grown hg1 hb.size (fun k hk => by injection hk with hk; omega)
      have hwr1 : w.heap.size + 1 ≤ w1.heap.size := by omega
      clear hg1 hb hit hsz1
      have hcon := indexRune_any (Utf8.decode s pos).1 w1 (by
        by_cases h : (Utf8.decode s pos).1 < 128
        · exact .inl h
        · exact .inr ⟨(decode_valid s pos (by omega)).2, (decode_valid s pos (by omega)).1⟩)
      obtain ⟨b, rfl⟩ : ∃ b', b = b' + 1 := ⟨b - 1, by omega⟩
      by_cases hsg : (Utf8.decode s pos).1 = 43 ∨ (Utf8.decode s pos).1 = 35
      · have HS := Lib.hid hsg
        have HCON := Lib.hid (hcon.mono fun e w' h => (show (∃ k : Int, e = .returned (.int .i64 k) ∧ 0 ≤ k) ∧ Below w1.heap.size w1 w' from ⟨let ⟨k, h1, h2⟩ := h.1; ⟨k, h1, by simpa [hsg] using h2⟩, h.2⟩))
        clear hcon hsg
        go_wp2_with (go_at_call 131; refine (HCON.out).mono ?_; rintro e w2 ⟨⟨k, rfl, hk⟩, hb2⟩)
        go_ret
        refine ⟨⟨_, rfl, ?_⟩, hb1.trans (hb2.mono (by omega))⟩
        rw [← HC.out, wildFrom, if_pos hp]
        simp [HS.out]
      · have HS := Lib.hid hsg
        have HCON := Lib.hid (hcon.mono fun e w' h => (show (∃ k : Int, e = .returned (.int .i64 k) ∧ k < 0) ∧ Below w1.heap.size w1 w' from ⟨let ⟨k, h1, h2⟩ := h.1; ⟨k, h1, by simpa [hsg] using h2⟩, h.2⟩))
        clear hcon hsg
        go_wp2_with (go_at_call 131; refine (HCON.out).mono ?_; rintro e w2 ⟨⟨k, rfl, hk⟩, hb2⟩)
        go_roundw
        case rel => exact ⟨_, b, iter_below hit1 hb2 (by omega), hb1.trans (hb2.mono (by omega)), wild_skip HC.out hp HS.out, by omega⟩
        case measure => rw [iter_pos (iter_below hit1 hb2 (by omega)), HIP.out]; omega
    · have hnx : ∀ ty, (Instr.next (.pointer (some ⟨w.heap.size, 0, none⟩)) true ty).run Tryz.prog wr = _ := fun ty => Lib.run_next_end_at wr w.heap.size s pos ty hit hp
      go_wp2
      go_ret
      exact ⟨⟨_, rfl, by rw [← HC.out, wildFrom_end s b pos hp]; rfl⟩, hb⟩

set_option maxHeartbeats 400000 in
theorem containsAny_any (s : ByteArray) (w : World) (hs : s.size ≤ 1000000) :
    Calls Tryz.prog 67 #[.string s, .string signs] w fun e w' => e = .returned (.bool (wildS s)) ∧ Below w.heap.size w w' := by
  have hc : Calls Tryz.prog 92 #[.string s, .string signs] w (SomeSign (wildS s) w.heap.size w) := by
    by_cases h8 : 8 < s.size
    · refine (Tryz.strings_IndexAny_long (fun w => by kernel_rfl) s signs w (by decide) h8 (by omega) (by decide) ?_).mono ?_
      · intro j b hb
        have : b ∈ [43, 35] := List.mem_of_getElem? (show ([43, 35] : List UInt8)[j]? = some b from hb)
        simp at this
        rcases this with rfl | rfl <;> decide
      · rintro e w' ⟨rfl, rfl⟩
        exact ⟨⟨_, rfl, indexAny_signs _⟩, ((Below.refl _ _).alloc (Nat.le_refl _) _).alloc (by simp) _⟩
    · exact indexAny_short s w (by omega)
  have H := Lib.hid hc
  clear hc
  go_enter Tryz.func67, Tryz.ntmps67
  go_wp2_with fail
  refine H.out.mono ?_
  rintro e w' ⟨⟨k, rfl, hk⟩, hb⟩
  have HK := Lib.hid hk
  clear hk
  go_wp2
  go_ret
  exact ⟨by rw [← HK.out]; rfl, hb⟩

end Go.Proofs.YtjeafniglnnkhaaGreatDoor
