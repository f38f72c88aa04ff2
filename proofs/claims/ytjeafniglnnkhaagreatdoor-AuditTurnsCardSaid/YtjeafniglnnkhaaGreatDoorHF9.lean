/- Words and the walk: append of a row of a call's onto a row of the call's own; audit.Faults' loop over the sessions. -/
import Derived.Test.YtjeafniglnnkhaaGreatDoorHF7
import Derived.Test.YtjeafniglnnkhaaGreatDoorHN1
import Derived.StillTailTactics
namespace Go.Proofs.YtjeafniglnnkhaaGreatDoor
open Go.RowKit Go.Maps Go.BigFrame
attribute [local go_sem ↓] Go.wp_at_zero Go.wp_at_succ

theorem run_append_nilzero {P : Program} (w : World) (t ty e : TypeId) (i : TypeInfo) (ht : P.underlying t = some (.slice e)) (hi : P.info? e = some i) (A : Option Addr) (c : Nat) :
    (Builtin.append_ #[t, t] ty #[.slice none 0 0, .slice A 0 c]).run P w = .ok (.slice none 0 0) w := by
  cases A with
  | none => simp [Builtin.append_, run_underlying ht, sizeOf, typeInfo, hi, Builtin.lenOf, Builtin.firstCells, storeCells]
  | some a =>
    have hl := run_loadCells_list (P := P) w a [] (by simp)
    simp at hl
    simp [Builtin.append_, run_underlying ht, sizeOf, typeInfo, hi, Builtin.lenOf, Builtin.firstCells, storeCells, hl]

/-- append of a row of the call's own, of no element too, onto a row of the call's own. -/
theorem wpList_append_row {P : Program} {w : World} {ops : Array Oper} {rest : List Oper} {o : Oper} {a : Act} {Q : Exit → Act → World → Prop} (hgd : o.guard = none) (s x : Operand) (t : TypeId)
    (ho : o.op = .call { callee := .builtin .append, args := #[s, x], argTypes := #[t, t] })
    (base : Nat) (e : TypeId) (i : TypeInfo) (z : Value) (size bytes : Nat) (ht : P.underlying t = some (.slice e)) (hi : P.info? e = some i) (hz : i.zero = some z)
    (hsize : i.size = size) (hby : i.bytes = bytes) (hzs : z.cells.size = size) (hsz : 0 < size)
    (v : Value) (n : Nat) (xs : List Value) (hs : a.eval s = v) (hown : w.ownsRow base e size v n xs)
    (base' : Nat) (v' : Value) (m : Nat) (news : List Value) (hx : a.eval x = v') (hownx : w.ownsRow base' e size v' m news) (h1 : ∀ u ∈ news, u.oneCell' = true)
    (h63 : n + m ≤ maxLen) (hbytes : (n + m) * bytes ≤ 140737488355328) (hbase : base ≤ w.heap.size)
    (h : ∀ v2 w', w'.ownsRow base e size v2 (n + m) (xs ++ news) → Below base w w' → w.grownBy w' v.ownBlock → wpList P ops Q rest (a.put o.dst v2) w') :
    wpList P ops Q (o :: rest) a w := by
  rcases Nat.eq_zero_or_pos m with rfl | hm
  · have hn0 : news = [] := List.eq_nil_of_length_eq_zero (by have := hownx.1; omega)
    subst hn0
    obtain ⟨A, c, rfl⟩ : ∃ A c, v' = .slice A 0 c := by
      rcases hownx.2 with ⟨h1, h2⟩ | ⟨g', cap, cur, h1, _⟩
      · exact ⟨none, 0, h1⟩
      · exact ⟨_, _, h1⟩
    have hfin := h v w (by simpa using hown) (Below.refl _ _) ⟨rfl, rfl, rfl, Nat.le_refl _, fun _ _ _ => rfl⟩
    refine wpList_plain hgd fun K hK => ?_
    rcases hown.2 with ⟨h2, h3⟩ | ⟨g', cap', cur, h0, hb, hg, hn, hm2, hcs, ht2⟩
    · subst h2
      have hr := run_append_nilzero (P := P) w t o.type e i ht hi A c
      unfold Oper.wp execOp
      simp only [ho, resolve, invoke, builtin, Sem.run_bind, Sem.run_pure, Result.andThen_ok, List.map_toArray, List.map_cons, List.map_nil, hs, hx, hr]
      exact hK _ _ hfin
    · subst h0
      have hr := run_append_zero (P := P) w t o.type e i ht hi g' n cap' hn A c
      unfold Oper.wp execOp
      simp only [ho, resolve, invoke, builtin, Sem.run_bind, Sem.run_pure, Result.andThen_ok, List.map_toArray, List.map_cons, List.map_nil, hs, hx, hr]
      exact hK _ _ hfin
  · rcases hownx.2 with ⟨h2, h3⟩ | ⟨g', cap', cur, h0, hb, hg, hn, hm2, hcs, ht2⟩
    · omega
    · subst h0
      exact wpList_append_lies w hgd s x t ho base e i z size bytes ht hi hz hsize hby hzs hsz v n xs hs hown ⟨g', 0, none⟩ m cap' news hx hownx.1 (hownx.cells (g := g') rfl) h1 hm h63 hbytes hbase _ rfl
        fun g cap w' h2 h3 h4 h5 => h _ w' h2 ((Below.refl _ _).grown h3 hbase (fun k hk => (hown.lt k hk).1)) h3
end Go.Proofs.YtjeafniglnnkhaaGreatDoor
