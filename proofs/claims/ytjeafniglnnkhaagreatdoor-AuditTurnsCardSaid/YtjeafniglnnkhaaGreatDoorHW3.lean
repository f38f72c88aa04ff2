/- Words: rows of the call's own whose elements are of some cells: sorted, copied; a map of the call's own as a function from keys. -/
import Derived.Test.YtjeafniglnnkhaaGreatDoorHD1
import Derived.Laws.CopyRow
import Derived.OwnWalk
import Derived.Maps.OwnSet
import Derived.Maps.OwnOps
import Derived.Maps.RangeWalk
import Derived.Sort.KeysCollected
import Derived.Shelf.SlSortCmp.WholeK
namespace Go.Proofs.YtjeafniglnnkhaaGreatDoor
open Go.RowKit Go.Sort

theorem holds_own {w : World} {base : Nat} {e : TypeId} {size g n cap : Nat} {xs : List Value} (h : w.ownsRow base e size (.slice (some ⟨g, 0, none⟩) n cap) n xs) :
    base ≤ g ∧ g < w.heap.size ∧ Holds id w g 0 xs.toArray := by
  rcases h.2 with ⟨e0, _⟩ | ⟨g', cap', cur, e0, hb, hg, hn, hm, hs, ht⟩
  · cases e0
  · cases e0
    refine ⟨hb, (Array.getElem?_eq_some_iff.1 hg).1, fun j hj => ?_⟩
    have hj' : j < xs.length := by simpa using hj
    refine ⟨?_, by simp [World.frozen?, hg]⟩
    have e1 : (cur.toList.take (n * size))[j]? = xs[j]? := by rw [ht]
    rw [List.getElem?_take, if_pos (by have := h.1; omega), Array.getElem?_toList] at e1
    simp only [World.cell?, hg, Nat.zero_add, Option.isSome_none, Bool.false_eq_true, if_false]
    rw [e1]
    simp [hj']

theorem own_put {w : World} {base : Nat} {e : TypeId} {size g n cap q : Nat} {xs ys : List Value} (h : w.ownsRow base e size (.slice (some ⟨g, 0, none⟩) n cap) n xs) (hy : ys.length = xs.length) :
    (putRow id (Sort.ahead w q) g 0 ys.toArray).ownsRow base e size (.slice (some ⟨g, 0, none⟩) n cap) n ys := by
  rcases h.2 with ⟨e0, _⟩ | ⟨g', cap', cur, e0, hb, hg, hn, hm, hs, ht⟩
  · cases e0
  · cases e0
    have hx := h.1
    have hle : n * size ≤ cap * size := Nat.mul_le_mul_right _ hn
    refine ⟨by omega, .inr ⟨g, cap, putCells id 0 ys.toArray cur, rfl, hb, ?_, hn, hm, by simpa [putCells] using hs, ?_⟩⟩
    · simp [putRow, mapBlock, Sort.ahead, Array.getElem?_modify, hg, onCells]
    · apply List.ext_getElem?
      intro j
      rw [List.getElem?_take, Array.getElem?_toList]
      by_cases hj : j < n * size
      · have hjc : j < cur.size := by omega
        simp only [if_pos hj, putCells, Array.getElem?_mapIdx, Array.getElem?_eq_getElem hjc, Option.map_some]
        rw [if_pos (by simp; omega), List.getElem?_eq_getElem (by omega)]
        simp [getElem!_pos, show j < ys.length by omega]
      · rw [if_neg hj, List.getElem?_eq_none (by omega)]

theorem flat_get {α : Type} (enc : α → List Value) (k : Nat) (hk : ∀ x, (enc x).length = k) (hk0 : 0 < k) : ∀ (l : List α) (t : Nat), (l.flatMap enc)[t]? = (l[t / k]?).bind fun x => (enc x)[t % k]?
  | [], t => by simp
  | x :: l, t => by
    rw [List.flatMap_cons, List.getElem?_append, hk]
    by_cases h : t < k
    · rw [if_pos h, Nat.div_eq_of_lt h, Nat.mod_eq_of_lt h]
      rfl
    · rw [if_neg h, flat_get enc k hk hk0 l (t - k)]
      have h1 : t / k = (t - k) / k + 1 := by
        rw [Nat.div_eq_sub_div hk0 (by omega)]
      have h2 : t % k = (t - k) % k := by
        rw [Nat.mod_eq_sub_mod (by omega)]
      rw [h1, h2, List.getElem?_cons_succ]

theorem flat_length {α : Type} (enc : α → List Value) (k : Nat) (hk : ∀ x, (enc x).length = k) : ∀ l : List α, (l.flatMap enc).length = l.length * k
  | [] => by simp
  | x :: l => by rw [List.flatMap_cons, List.length_append, hk, flat_length enc k hk l, List.length_cons, Nat.succ_mul, Nat.add_comm]

theorem flatK_flat {α : Type} [Inhabited α] (enc : α → List Value) (k : Nat) (hk : ∀ x, (enc x).length = k) (hk0 : 0 < k) (l : List α) : flatK enc k l.toArray = (l.flatMap enc).toArray := by
  apply ext_get!
  · simp [flat_length enc k hk]
  · intro t ht
    have ht' : t < l.toArray.size * k := by simpa using ht
    rw [get_flatK _ _ _ t ht']
    have htl : t / k < l.length := by
      rw [Nat.div_lt_iff_lt_mul hk0]; simpa using ht'
    have := flat_get enc k hk hk0 l t
    rw [List.getElem?_eq_getElem htl] at this
    have hm : t % k < (enc l[t / k]).length := by rw [hk]; exact Nat.mod_lt _ hk0
    simp only [Option.bind_some] at this
    rw [List.getElem?_eq_getElem hm] at this
    rw [show l.toArray[t / k]! = l[t / k] by simp [htl]]
    simp only [getElem!_def, List.getElem?_toArray]
    rw [this, List.getElem?_eq_getElem hm]

/-- copy of a row of the call's own over another one of the same length. -/
theorem wpList_copy_whole {P : Program} {w : World} {ops : Array Oper} {rest : List Oper} {o : Oper} {a : Act} {Q : Exit → Act → World → Prop} (hgd : o.guard = none) (d s : Operand) (dT sT : TypeId)
    (ho : o.op = .call { callee := .builtin .copy, args := #[d, s], argTypes := #[dT, sT] }) (e : TypeId) (i : TypeInfo) (size : Nat) (hu : P.underlying dT = some (.slice e)) (hi : P.info? e = some i) (hsz : i.size = size)
    (g base base' n : Nat) (v : Value) (xs ys : List Value) (hd : a.eval d = .slice (some ⟨g, 0, none⟩) n n) (hs : a.eval s = v) (hod : w.ownsRow base e size (.slice (some ⟨g, 0, none⟩) n n) n ys) (hos : w.ownsRow base' e size v n xs)
    (h1 : ∀ u ∈ xs, u.oneCell' = true)
    (h : ∀ w', w'.ownsRow base e size (.slice (some ⟨g, 0, none⟩) n n) n xs → w.grownBy w' (some g) → wpList P ops Q rest (a.put o.dst (goInt n)) w') :
    wpList P ops Q (o :: rest) a w := by
  refine wpList_plain hgd fun K hK => ?_
  have hlx := hos.1
  rcases hod.2 with ⟨e0, _⟩ | ⟨g', cap', cur, e0, hb, hg, hn, hm, hcs, ht⟩
  · cases e0
  cases e0
  have key : ∃ w', (Builtin.copy_ #[dT, sT] o.type #[.slice (some ⟨g, 0, none⟩) n n, v]).run P w = .ok (goInt n) w' ∧ w'.ownsRow base e size (.slice (some ⟨g, 0, none⟩) n n) n xs ∧ w.grownBy w' (some g) := by
    have hst := run_storeCells_at P g 0 e xs 0 cur w hg (by simp; omega) h1
    refine ⟨w.setRow g (xs ++ cur.toList.drop xs.length).toArray, ?_, ⟨hlx, .inr ⟨g, n, (xs ++ cur.toList.drop xs.length).toArray, rfl, hb, ?_, hn, hm, ?_, ?_⟩⟩, ⟨rfl, rfl, rfl, by simp [World.setRow], fun k _ hne => setRow_other w g k _ (fun e => hne (by rw [e]))⟩⟩
    · rcases hos.2 with ⟨rfl, h0⟩ | ⟨g2, cap2, cur2, rfl, hb2, hg2, hn2, hm2, hcs2, ht2⟩
      · subst h0
        have : xs = [] := List.eq_nil_of_length_eq_zero (by omega)
        subst this
        have hself : w.setRow g cur = w := setRow_self w g cur e (0, 0) hg
        simp [Builtin.copy_, run_underlying hu, Builtin.lenOf, Builtin.firstCells, sizeOf, typeInfo, hi, storeCells, hself]
      · have hl := run_loadCells_list (P := P) w ⟨g2, 0, none⟩ xs (hos.cells (g := g2) rfl)
        have hmin : Nat.min n n = n := Nat.min_self n
        rw [hlx] at hl
        simp [Builtin.copy_, run_underlying hu, Builtin.lenOf, Builtin.firstCells, sizeOf, typeInfo, hi, hsz, hmin, hl]
        simp at hst
        rw [hst]
        rfl
    · exact setRow_heap w g cur _ e _ hg
    · simp; omega
    · simp [← hlx]
  obtain ⟨w', hrun, r1, r2⟩ := key
  unfold Oper.wp
  simp [execOp, ho, resolve, invoke, builtin, hd, hs, hrun, Result.andThen]
  exact hK _ _ (h w' r1 r2)

/-! ### a map of the call's own -/
open Go.Maps

/-- The map reads as a function from keys to numbers. -/
def MapIs (D : DataW Unit) (m : List UInt8 → Option Int) : Prop := IsMap D ∧ ∀ x : List UInt8, has D (.string x) = (m x).isSome ∧ ∀ q, m x = some q → ∀ zd, D.atKey (.string x) zd = .lit (.int .i64 q)

theorem MapIs.empty : MapIs (.map []) fun _ => none := ⟨isMap_empty, fun x => ⟨rfl, fun q h => by cases h⟩⟩

theorem MapIs.put {D : DataW Unit} {m : List UInt8 → Option Int} (h : MapIs D m) (x : List UInt8) (q : Int) : MapIs (D.put (.string x) (.lit (.int .i64 q))) fun y => if y = x then some q else m y := by
  refine ⟨h.1.put _ _, fun y => ?_⟩
  by_cases hy : y = x
  · subst hy
    refine ⟨by rw [has_put_same h.1 (by trivial)]; simp, fun q' hq zd => ?_⟩
    simp at hq
    subst hq
    exact atKey_put_same h.1 (by trivial) _ _
  · have hne : (Lit.string y) ≠ .string x := fun e => hy (by cases e; rfl)
    refine ⟨by rw [has_put_other hne, (h.2 y).1]; simp [hy], fun q' hq zd => ?_⟩
    rw [atKey_put_other hne]
    simp [hy] at hq
    exact (h.2 y).2 q' hq zd
end Go.Proofs.YtjeafniglnnkhaaGreatDoor
