/- Walks: topic.Sorted; slices.Compact of what it made. -/
import Derived.Test.YtjeafniglnnkhaaGreatDoorHA3
import Derived.Test.YtjeafniglnnkhaaGreatDoorHS4
import Derived.Lib.OwnBridge
namespace Go.Proofs.YtjeafniglnnkhaaGreatDoor
open Go.RowKit Go.Sort

/-- A world behind a callee that lays blocks and draws: in the sort's own words. -/
theorem Lay.grow {w w' : World} (h : Lay w w') : ∃ q os, w' = grow (w.drewN q) os := by
  obtain ⟨⟨h1, h2, h3, h4, h5⟩, hd⟩ := h
  refine ⟨w'.drawn - w.drawn, w'.heap.extract w.heap.size w'.heap.size, ?_⟩
  cases w' with
  | mk heap tape drawn os output =>
    simp only at h1 h2 h3 h4 h5 hd
    simp only [Sort.grow, World.drewN]
    congr 1
    · apply Array.ext_getElem?
      intro k
      rw [Array.getElem?_append]
      split
      · rename_i hk
        exact h5 k hk
      · rename_i hk
        rw [Array.getElem?_extract]
        by_cases hk2 : k < heap.size
        · rw [if_pos (by omega)]
          congr 1
          omega
        · rw [if_neg (by omega), Array.getElem?_eq_none (by omega)]
    · omega

abbrev Txt := { s : ByteArray // s.size ≤ 1000000 }
instance : Inhabited Txt := ⟨⟨⟨#[]⟩, by decide⟩⟩
def encT (s : Txt) : Value := .string s.val
theorem encT_one : OneCell encT := fun _ => rfl
def cmpT (a b : Txt) : Int := compareS a.val b.val

theorem cmpT_cmp : Cmp cmpT :=
  have h := compareS_cmp
  ⟨fun a b => h.vals _ _, fun a b => (h.eq_ _ _).trans ⟨Subtype.ext, congrArg _⟩, fun a b => h.neg _ _, fun a b c => h.trans _ _ _⟩

theorem Cmp.total {α : Type} {f : α → α → Int} (h : Cmp f) (x y : α) (h1 : ltOf f x y = false) (h2 : ltOf f y x = false) : x = y := by
  have h1' := of_decide_eq_false h1
  have h2' := of_decide_eq_false h2
  have := h.neg x y
  exact (h.eq_ x y).1 (by omega)

def sortedS (l : List ByteArray) : List ByteArray := l.mergeSort fun x y => !(ltOf compareS y x)

theorem sorted_map (l : List Txt) : (l.mergeSort fun x y => !(ltOf cmpT) y x).map (·.val) = sortedS (l.map (·.val)) :=
  List.map_mergeSort fun _ _ _ _ => rfl

theorem txts (l : List ByteArray) (h : ∀ s ∈ l, s.size ≤ 1000000) : ∃ l' : List Txt, l'.map (·.val) = l := by
  refine ⟨l.attachWith (fun s => s.size ≤ 1000000) h, ?_⟩
  simp

theorem owns_grow {w : World} {base : Nat} {e : TypeId} {size : Nat} {v : Value} {n : Nat} {xs : List Value} (h : w.ownsRow base e size v n xs) (os : Array Obj) : (grow w os).ownsRow base e size v n xs :=
  owns_below h ⟨rfl, rfl, rfl, by simp, fun k hk => heap_grow_old _ _ hk⟩

theorem below_grow {B : Nat} {w0 w : World} (h : Below B w0 w) (hB : B ≤ w.heap.size) (os : Array Obj) : Below B w0 (grow w os) :=
  h.trans ⟨rfl, rfl, rfl, by simp, fun k hk => heap_grow_old _ _ (by omega)⟩

set_option maxHeartbeats 400000 in
theorem sorted_any (v : Value) (l : List ByteArray) (B : Nat) (w : World) (h : IsStrs w B v l) (hs : ∀ s ∈ l, s.size ≤ 1000000) (hl : l.length ≤ 10000000) :
    Calls Tryz.prog 28 #[v] w fun e w' => ∃ v', e = .returned v' ∧ w'.ownsRow w.heap.size 9 1 v' l.length ((sortedS l).map .string) ∧ Below w.heap.size w w' := by
  obtain ⟨A, c, rfl, hc, hA⟩ := h
  by_cases h0 : l.length = 0
  · have hl0 : l = [] := List.eq_nil_of_length_eq_zero h0
    subst hl0
    have hso : sortedS [] = [] := by simp [sortedS]
    rw [hso]
    cases A with
    | none =>
      go_enter Tryz.func28, Tryz.ntmps28
      go_wp2_with fail
      refine (Tryz.slices_Clone_string_nil _ _ _).mono ?_
      rintro e w1 ⟨rfl, rfl⟩
      go_wp2_with fail
      refine (Tryz.slices_SortFunc_none (α := Txt) _ _ _ _).mono ?_
      rintro e w1 ⟨rfl, rfl⟩
      go_wp2
      go_ret
      exact ⟨_, rfl, ⟨rfl, .inl ⟨rfl, rfl⟩⟩, Below.refl _ _⟩
    | some a =>
      go_enter Tryz.func28, Tryz.ntmps28
      go_wp2_with fail
      refine (Tryz.slices_Clone_string_zero _ _ _).mono ?_
      rintro e w1 ⟨v', rfl, hown, hne, hb⟩
      rcases hown.2 with ⟨h, _⟩ | ⟨g, cap, cur, rfl, _⟩
      · exact absurd h hne
      go_wp2_with fail
      refine (Tryz.slices_SortFunc_none (α := Txt) _ _ _ _).mono ?_
      rintro e w1 ⟨rfl, rfl⟩
      go_wp2
      go_ret
      exact ⟨_, rfl, hown, hb⟩
  · obtain ⟨b, o, rfl, hB, hcell⟩ := hA (by omega)
    obtain ⟨lt, hlt⟩ := txts l hs
    have hll : lt.length = l.length := by rw [← hlt]; simp
    have hclone := Tryz.slices_Clone_string b o l.length c l w (Nat.le_refl _) (by omega) (fun j hj => by
      rw [hcell j hj]
      simp [List.getD_eq_getElem?_getD, hj])
    rw [List.take_length] at hclone
    go_enter Tryz.func28, Tryz.ntmps28
    go_wp2_with fail
    refine hclone.mono ?_
    rintro e w1 ⟨v', rfl, hown, hne, hb⟩
    have hmap : l.map Value.string = lt.map encT := by rw [← hlt, List.map_map]; rfl
    rw [hmap] at hown
    obtain ⟨g, cap, rfl, hbase, hg, hn, hm, hlen, hH⟩ := Lib.holds_of_ownsRow hown hne
    have hszT : lt.toArray.size < 4611686018427387904 := by rw [List.size_toArray, hll]; omega
    have hsort := Tryz.slices_SortFunc_total encT encT_one cmpT cmpT_cmp.swo 10 #[] g 0 cap lt.toArray w1 (enters_of Tryz.func10 (by kernel_rfl) rfl) (by
      intro m os dk hdk x y
      refine (compare_lay x.val y.val _ x.2 y.2).mono ?_
      rintro e w' ⟨rfl, hL⟩
      exact ⟨rfl, hL.grow⟩) hH hg hszT cmpT_cmp.total
    rw [show lt.toArray.size = l.length by simp [hll]] at hsort
    clear hA hcell hclone
    go_wp2_with fail
    refine hsort.mono ?_
    rintro e w2 ⟨rfl, n, os, rfl⟩
    go_wp2
    go_ret
    refine ⟨_, rfl, ?_, ?_⟩
    · have := Lib.ownsRow_putRow (q := n) (k := l.length) (ys := lt.mergeSort fun x y => !(ltOf cmpT) y x) hown (by simp [hll]) (Nat.le_refl _)
      rw [List.take_of_length_le (by simp [hll])] at this
      have e : (lt.mergeSort fun x y => !(ltOf cmpT) y x).map encT = (sortedS l).map Value.string := by
        rw [← hlt, ← sorted_map, List.map_map]; rfl
      rw [e] at this
      exact owns_grow this os
    · exact below_grow (Lib.below_putRow hb hbase) (by have := hb.size; simp [putRow, mapBlock, Sort.ahead]; omega) os

theorem compact_any (v : Value) (l : List ByteArray) (base : Nat) (w0 w : World) (h : w.ownsRow base 9 1 v l.length (l.map .string)) (hb : Below base w0 w) (hl : l.length ≤ 10000000) :
    Calls Tryz.prog 27 #[v] w fun e w' => ∃ (v' : Value) (l' : List ByteArray), e = .returned v' ∧ l'.map (·.data.toList) = Lib.compact (l.map (·.data.toList)) ∧ w'.ownsRow base 9 1 v' l'.length (l'.map .string) ∧ Below base w0 w' := by
  by_cases hne : v = .slice none 0 0
  · subst hne
    have h0 : l.length = 0 := by
      rcases h.2 with ⟨_, h⟩ | ⟨g, cap, cur, h, _⟩
      · exact h
      · cases h
    have hl0 : l = [] := List.eq_nil_of_length_eq_zero h0
    subst hl0
    refine (Tryz.slices_Compact_string_empty _ _ _).mono ?_
    rintro e w' ⟨rfl, rfl⟩
    exact ⟨_, [], rfl, rfl, h, hb⟩
  · rw [← Lib.map_encStr] at h
    obtain ⟨g, cap, rfl, hbase, hg, hn, hm, hlen, hH⟩ := Lib.holds_of_ownsRow h hne
    have := Tryz.slices_Compact_string g 0 cap (l.map (·.data.toList)) w hH (by simp; omega) (by simpa using hn)
    rw [hlen] at this
    refine this.mono ?_
    rintro e w' ⟨rfl, q, rfl⟩
    have hle : (Lib.compact (l.map (·.data.toList))).length ≤ l.length := by
      have := Lib.compact_length_le (l.map (·.data.toList)); simpa using this
    have ho := Lib.ownsRow_putRow (q := q) (k := (Lib.compact (l.map (·.data.toList))).length) (ys := Lib.compact (l.map (·.data.toList)) ++ List.replicate (l.length - (Lib.compact (l.map (·.data.toList))).length) []) h (by simp; omega) hle
    rw [List.take_left' rfl] at ho
    refine ⟨_, (Lib.compact (l.map (·.data.toList))).map (fun x => ⟨x.toArray⟩), rfl, by simp [Function.comp_def], ?_, Lib.below_putRow hb hbase⟩
    rw [← Lib.map_encStr]
    simpa [Function.comp_def] using ho
end Go.Proofs.YtjeafniglnnkhaaGreatDoor
