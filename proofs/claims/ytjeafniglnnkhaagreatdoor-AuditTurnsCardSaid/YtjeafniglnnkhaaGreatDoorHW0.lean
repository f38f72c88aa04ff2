/- Words used by all walks of this claim: steps of a string's iterator, append of one element onto a row of the call's own, slices that read as lists. -/
/- Words: how an image and a message lie in memory. -/
/- Words: a region that draws its order and whose callees lay blocks: one walk in the order of the text, over the class of the worlds that keep all below a block. -/
import Derived.Test.YtjeafniglnnkhaaGreatDoorChecked
import Derived.WalkKit
import Derived.WalkLawsBesides
import Derived.WalkSpells
import Derived.Below
import Derived.Outline
import Derived.Lib.OthersKept
import Derived.Lib.Hide
import Derived.Deep.Draws
import Derived.Deep.QuietTactic
import Derived.BigQuiet
import Derived.WalkMore
namespace Go.Proofs.YtjeafniglnnkhaaGreatDoor
open Go.RowKit

/-! ### A run never takes a draw back -/
theorem ask_drawn {α : Type} : ∀ (a : Ask α) (w : World), w.drawn ≤ (w.ask a).2.drawn
  | .done _, w => by simp [World.ask]
  | .ask what range k, w => by
    unfold World.ask
    dsimp only
    split
    · exact ask_drawn _ w
    · refine Nat.le_trans ?_ (ask_drawn _ _)
      exact Nat.le_succ _

theorem sys_drawn (w : World) (c : Sys) : w.drawn ≤ (w.sys c).2.drawn := by
  unfold World.sys
  have h := ask_drawn (Kernel.perform c w.os) w
  split
  · exact Nat.le_refl _
  · rename_i r os w' _ he
    rw [he] at h
    exact h

theorem viewStore_drawn {p : Program} {w w' : World} {at_ : Addr} {u : TypeId} {k : Addr} {v : Value} {atomic : Bool} {l : List Addr} (h : w.viewStore p at_ u k v atomic = .ok (w', l)) : w'.drawn = w.drawn := by
  unfold World.viewStore at h
  simp only [bind, Except.bind, pure, Except.pure, throw, throwThe, MonadExceptOf.throw] at h
  repeat' (split at h)
  all_goals (first | (cases h; done) | (simp only [Except.ok.injEq, Prod.mk.injEq] at h; rw [← h.1]) | skip)

theorem farStore_drawn {p : Program} {w w' : World} {a : Addr} {v : Value} {atomic : Bool} {l : List Addr} (h : w.farStore p a v atomic = .ok (w', l)) : w'.drawn = w.drawn := by
  unfold World.farStore at h
  split at h
  · split at h
    · rename_i r hr
      cases h
      exact viewStore_drawn hr
    · cases h
  · cases h

theorem run_drawn {α : Type} (P : Program) (e : Sem α) : ∀ (w : World) {a : α} {w' : World}, e.run P w = .ok a w' → w.drawn ≤ w'.drawn := by
  induction e with
  | pure a => intro w x w' h; simp [Sem.run] at h; rw [h.2]; exact Nat.le_refl _
  | load m a k ih =>
    intro w x w' h
    simp only [Sem.run] at h
    repeat' (split at h)
    all_goals first | exact ih _ w h | cases h
  | store m a v k ih =>
    intro w x w' h
    cases v <;> simp only [Sem.run] at h <;> first | (cases h; done) | skip
    all_goals (repeat' (split at h))
    all_goals first
      | (cases h; done)
      | exact ih (w.setCell a _) h
      | (rename_i hf; have := ih _ h; rw [farStore_drawn hf] at this; exact this)
  | new o k ih => intro w x w' h; simp only [Sem.run] at h; have := ih w.heap.size { w with heap := w.heap.push o } h; exact this
  | shape r k ih => intro w x w' h; simp only [Sem.run] at h; exact ih _ _ h
  | freeze a n k ih =>
    intro w x w' h
    simp only [Sem.run] at h
    have := ih _ h
    unfold World.freeze at this
    split at this <;> exact this
  | frozen a k ih => intro w x w' h; simp only [Sem.run] at h; exact ih _ _ h
  | getObj r k ih =>
    intro w x w' h
    simp only [Sem.run] at h
    split at h
    · cases h
    · exact ih _ w h
    · cases h
  | setObj r o k ih =>
    intro w x w' h
    simp only [Sem.run] at h
    split at h
    · cases h
    · have := ih { w with heap := w.heap.setIfInBounds r o } h
      exact this
    · cases h
  | choose q k ih =>
    intro w x w' h
    simp only [Sem.run] at h
    split at h
    · exact ih _ _ h
    · have := ih (q.cut (w.tape w.drawn q)) { w with drawn := w.drawn + 1 } h
      exact Nat.le_trans (Nat.le_succ _) this
  | sys c k ih => intro w x w' h; simp only [Sem.run] at h; exact Nat.le_trans (sys_drawn w c) (ih _ _ h)
  | program k ih => intro w x w' h; simp only [Sem.run] at h; exact ih _ _ h
  | mark m k ih => intro w x w' h; simp only [Sem.run] at h; exact ih _ h
  | halt h => intro w x w' hh; simp [Sem.run] at hh

theorem iter_next (P : Program) (wr : World) (k : Nat) (s : ByteArray) (pos : Nat) (hk : wr.heap[k]? = some (.stringIter s pos)) (h : pos < s.size) :
    ∃ w1, (∀ ty, (Instr.next (.pointer (some ⟨k, 0, none⟩)) true ty).run P wr = .ok (.tuple #[.bool true, .int .i64 pos, .int .i32 (Utf8.decode s pos).1]) w1) ∧
      w1.heap[k]? = some (.stringIter s (pos + (Utf8.decode s pos).2)) ∧ w1.heap.size = wr.heap.size ∧ wr.drawn ≤ w1.drawn ∧ wr.grownBy w1 (some k) :=
  ⟨wr.iterAt k s (pos + (Utf8.decode s pos).2), fun ty => Lib.run_next_any_at wr k s pos ty hk h, Lib.iterAt_heap wr k s pos _ hk, Lib.iterAt_size _ _ _ _, Nat.le_refl _,
    ⟨rfl, rfl, rfl, by rw [Lib.iterAt_size]; exact Nat.le_refl _, fun j _ hne => Lib.iterAt_other wr k j s _ (fun e => hne (by rw [e]))⟩⟩

theorem iter_pos {w : World} {k : Nat} {s : ByteArray} {pos : Nat} (h : w.heap[k]? = some (.stringIter s pos)) : w.iterPos k = pos := by
  simp [World.iterPos, h]

theorem iter_below {w w' : World} {B k : Nat} {o : Obj} (h : w.heap[k]? = some o) (hb : Below B w w') (hk : k < B) : w'.heap[k]? = some o := (hb.block k hk).trans h

theorem owns_of_grown {w w' : World} {base : Nat} {e : TypeId} {size : Nat} {v : Value} {n : Nat} {xs : List Value} {k : Nat} (h : w.ownsRow base e size v n xs) (hg : w.grownBy w' (some k)) (hk : k < base) : w'.ownsRow base e size v n xs :=
  h.kept hg (by
    cases hv : v.ownBlock with
    | none => exact .inl rfl
    | some j =>
      right
      intro e
      have := h.lt j hv
      injection e with e
      omega)

/-- A row of the call's own stays while a callee makes memory. -/
theorem owns_below {w w' : World} {base : Nat} {e : TypeId} {size : Nat} {v : Value} {n : Nat} {xs : List Value} (h : w.ownsRow base e size v n xs) (hb : Below w.heap.size w w') : w'.ownsRow base e size v n xs := by
  refine ⟨h.1, ?_⟩
  rcases h.2 with hn | ⟨g, cap, cur, rfl, hbb, hgg, rest⟩
  · exact .inl hn
  · exact .inr ⟨g, cap, cur, rfl, hbb, (hb.block g (Array.getElem?_eq_some_iff.1 hgg).1).trans hgg, rest⟩

theorem owns_mono {w : World} {base base' : Nat} {e : TypeId} {size : Nat} {v : Value} {n : Nat} {xs : List Value} (h : w.ownsRow base e size v n xs) (hb : base' ≤ base) : w.ownsRow base' e size v n xs := by
  refine ⟨h.1, ?_⟩
  rcases h.2 with hn | ⟨g, cap, cur, rfl, hbb, rest⟩
  · exact .inl hn
  · exact .inr ⟨g, cap, cur, rfl, Nat.le_trans hb hbb, rest⟩

/-- append of one element, its cells in the block that was just made. -/
theorem wpList_app {P : Program} {w : World} {ops : Array Oper} {rest : List Oper} {o : Oper} {a : Act} {Q : Exit → Act → World → Prop} (hgd : o.guard = none) (s x : Operand) (t : TypeId)
    (ho : o.op = .call { callee := .builtin .append, args := #[s, x], argTypes := #[t, t] })
    (base : Nat) (e : TypeId) (i : TypeInfo) (z : Value) (size bytes : Nat) (ht : P.underlying t = some (.slice e)) (hi : P.info? e = some i) (hz : i.zero = some z)
    (hsize : i.size = size) (hby : i.bytes = bytes) (hzs : z.cells.size = size) (hsz : 0 < size)
    (v : Value) (n : Nat) (xs : List Value) (hs : a.eval s = v) (hown : w.ownsRow base e size v n xs)
    (news : List Value) (hl : news.length = size) (hx : a.eval x = .slice (some ⟨w.heap.size, 0, none⟩) 1 1) (h1 : ∀ u ∈ news, u.oneCell' = true)
    (hn : n ≤ 10000000) (hbytes : bytes ≤ 10000) (hbase : base ≤ w.heap.size)
    (h : ∀ v' w', w'.ownsRow base e size v' (n + 1) (xs ++ news) → Below base w w' → w.heap.size < w'.heap.size → w.drawn ≤ w'.drawn → w.grownBy w' v.ownBlock → wpList P ops Q rest (a.put o.dst v') w') :
    wpList P ops Q (o :: rest) a (w.alloc (.cells news.toArray e)) := by
  have hb' : (n + 1) * bytes ≤ 140737488355328 := Nat.le_trans (Nat.mul_le_mul (show n + 1 ≤ 10000001 by omega) hbytes) (by decide)
  refine wpList_plain hgd fun K hK => ?_
  obtain ⟨v', w', hrun, h2, h3, _⟩ := run_append_own (P := P) (w.alloc (.cells news.toArray e)) base t o.type e i z size bytes ht hi hz hsize hby hzs hsz v n xs (hown.alloc _) ⟨w.heap.size, 0, none⟩ 1 1 news (by omega) (by
    intro j u hu
    have hadd : (⟨w.heap.size, 0, none⟩ : Addr).add j = ⟨w.heap.size, j, none⟩ := by unfold Addr.add; split <;> simp_all
    rw [hadd]
    have : (w.alloc (.cells news.toArray e)).heap[w.heap.size]? = some (.cells news.toArray e (0, 0)) := heap_alloc_new w _
    rw [cell_of_row _ _ j _ e (0, 0) this]
    simpa using hu) h1 (by unfold maxLen; omega) hb' (by simp; omega)
  have hg : w.grownBy w' v.ownBlock := ⟨h3.os, h3.tape, h3.output, Nat.le_trans (by simp) h3.size, fun k hk hne => (h3.block k (by simp; omega) hne).trans (heap_alloc_old w _ hk)⟩
  have hd : w.drawn ≤ w'.drawn := by
    have := run_drawn P _ (w.alloc (.cells news.toArray e)) hrun
    exact this
  unfold Oper.wp execOp
  simp only [ho, resolve, invoke, builtin, Sem.run_bind, Sem.run_pure, Result.andThen_ok, List.map_toArray, List.map_cons, List.map_nil, hs, hx, hrun]
  refine hK _ _ (h v' w' h2 ?_ ?_ hd hg)
  · exact (Below.refl _ _).grown hg hbase (fun k hk => (hown.lt k hk).1)
  · have := h3.size; simp at this; omega

/-- A callee that lays blocks and draws: nothing that was there has turned. -/
def Lay (w w' : World) : Prop := Below w.heap.size w w' ∧ w.drawn ≤ w'.drawn
theorem Lay.refl (w : World) : Lay w w := ⟨Below.refl _ _, Nat.le_refl _⟩
theorem Lay.trans {a b c : World} (h : Lay a b) (k : Lay b c) : Lay a c := ⟨h.1.trans (k.1.mono h.1.size), Nat.le_trans h.2 k.2⟩

/-! ### A quiet region behind a quiet region (out of the guide's small lemmas) -/
theorem quiet_add {P : Program} {f : FuncId} {args : Array Value} {w : World} {a n : Nat} {v : Value}
    (h : Calls P f args (w.drewN (a + n)) fun e w' => e = .returned v ∧ ∃ m, w' = (w.drewN (a + n)).drewN m) :
    Calls P f args (w.drewN (a + n)) fun e w'' => e = .returned v ∧ ∃ m, w'' = w.drewN (a + m) :=
  h.mono fun _ _ ⟨he, m, hm⟩ => ⟨he, n + m, by rw [hm, World.drewN_drewN, Nat.add_assoc]⟩
theorem quiet_add_same {P : Program} {f : FuncId} {args : Array Value} {w : World} {a n : Nat} {v : Value}
    (h : Calls P f args (w.drewN (a + n)) fun e w' => e = .returned v ∧ w' = w.drewN (a + n)) :
    Calls P f args (w.drewN (a + n)) fun e w'' => e = .returned v ∧ ∃ m, w'' = w.drewN (a + m) :=
  h.mono fun _ _ ⟨he, hm⟩ => ⟨he, n, hm⟩
theorem quiet_add_left {P : Program} {f : FuncId} {args : Array Value} {w : World} {a n : Nat} {v : Value}
    (h : Calls P f args (w.drewN (a + n)) fun e w' => e = .returned v ∧ w.drewN (a + n) = w') :
    Calls P f args (w.drewN (a + n)) fun e w'' => e = .returned v ∧ ∃ m, w'' = w.drewN (a + m) :=
  h.mono fun _ _ ⟨he, hm⟩ => ⟨he, n, hm.symm⟩
theorem quiet_left {P : Program} {f : FuncId} {args : Array Value} {w : World} {n : Nat} {v : Value}
    (h : Calls P f args (w.drewN n) fun e w' => e = .returned v ∧ w.drewN n = w') : Calls P f args (w.drewN n) fun e w'' => e = .returned v ∧ ∃ m, w'' = w.drewN m :=
  h.mono fun _ _ ⟨he, hm⟩ => ⟨he, n, hm.symm⟩
theorem below_drewN {B : Nat} {a w : World} (h : Below B a w) (n : Nat) : Below B a (w.drewN n) := ⟨h.os, h.tape, h.output, h.size, h.block⟩

/-- A slice of strings that reads as a list: its cells lie below block B. -/
def IsStrs (w : World) (B : Nat) (v : Value) (l : List ByteArray) : Prop :=
  ∃ (A : Option Addr) (c : Nat), v = .slice A l.length c ∧ l.length ≤ c ∧ (0 < l.length → ∃ b o, A = some ⟨b, o, none⟩ ∧ b < B ∧ ∀ i (h : i < l.length), w.cell? ⟨b, o + i, none⟩ = some (.string l[i]))

theorem IsStrs.below {w w' : World} {B : Nat} {v : Value} {l : List ByteArray} (h : IsStrs w B v l) (hb : Below B w w') : IsStrs w' B v l := by
  obtain ⟨A, c, hv, hc, hA⟩ := h
  exact ⟨A, c, hv, hc, fun h0 => let ⟨b, o, hA, hB, hcell⟩ := hA h0; ⟨b, o, hA, hB, fun i hi => (hb.cell (p := ⟨b, o + i, none⟩) hB).trans (hcell i hi)⟩⟩

theorem IsStrs.mono {w : World} {B B' : Nat} {v : Value} {l : List ByteArray} (h : IsStrs w B v l) (hb : B ≤ B') : IsStrs w B' v l := by
  obtain ⟨A, c, hv, hc, hA⟩ := h
  exact ⟨A, c, hv, hc, fun h0 => let ⟨b, o, hA, hB, hcell⟩ := hA h0; ⟨b, o, hA, Nat.lt_of_lt_of_le hB hb, hcell⟩⟩

theorem IsStrs.of_owns {w : World} {base : Nat} {v : Value} {l : List ByteArray} (h : w.ownsRow base 9 1 v l.length (l.map .string)) : IsStrs w w.heap.size v l := by
  rcases h.2 with ⟨rfl, h0⟩ | ⟨g, cap, cur, rfl, _, hgg, hn, _, _, _⟩
  · exact ⟨none, 0, by rw [h0], by omega, fun h => by omega⟩
  · refine ⟨some ⟨g, 0, none⟩, cap, rfl, hn, fun _ => ⟨g, 0, rfl, (Array.getElem?_eq_some_iff.1 hgg).1, fun i hi => ?_⟩⟩
    have := h.cells (g := g) rfl i (.string l[i]) (by simp [hi])
    have hadd : (⟨g, 0, none⟩ : Addr).add i = ⟨g, 0 + i, none⟩ := by unfold Addr.add; split <;> simp_all
    rwa [hadd] at this

theorem run_slice_from {P : Program} {t e : TypeId} {i0 : TypeInfo} (ht : P.underlying t = some (.slice e)) (hi : P.info? e = some i0) (a : Option Addr) (len cap : Nat) (i : Int) (h0 : 0 ≤ i) (h1 : i ≤ len) (w : World) :
    (Instr.slice t (.slice a len cap) (some (.int .i64 i)) none none).run P w = .ok (.slice (if cap = i.toNat then a else a.map (·.add (i.toNat * i0.size))) (len - i.toNat) (cap - i.toNat)) w := by
  simp [Instr.slice, Instr.sliceBounds, Instr.sliceBound, asIntOf, run_underlying ht, h0, h1, sizeOf, typeInfo, hi]

theorem IsStrs.cut {P : Program} {t : TypeId} {i0 : TypeInfo} (ht : P.underlying t = some (.slice 9)) (hi : P.info? 9 = some i0) (hs : i0.size = 1) {w : World} {B : Nat} {A : Option Addr} {c : Nat} {l : List ByteArray} (h : IsStrs w B (.slice A l.length c) l) (i : Int) (h0 : 0 ≤ i) (h1 : i ≤ l.length) :
    ∃ A', (∀ W, (Instr.slice t (.slice A l.length c) (some (.int .i64 i)) none none).run P W = .ok (.slice A' (l.length - i.toNat) (c - i.toNat)) W) ∧ IsStrs w B (.slice A' (l.length - i.toNat) (c - i.toNat)) (l.drop i.toNat) := by
  obtain ⟨A', c', hv, hc, hA⟩ := h
  cases hv
  obtain ⟨n, rfl⟩ := Int.eq_ofNat_of_zero_le h0
  simp only [Int.toNat_natCast]
  have h1' : n ≤ l.length := by omega
  refine ⟨_, fun W => run_slice_from ht hi A l.length c n h0 h1 W, ?_⟩
  rw [hs, Nat.mul_one]
  simp only [Int.toNat_natCast]
  refine ⟨_, _, by rw [List.length_drop], by rw [List.length_drop]; omega, fun hpos => ?_⟩
  rw [List.length_drop] at hpos
  obtain ⟨b, o, rfl, hB, hcell⟩ := hA (by omega)
  have hne : ¬ c = n := by omega
  rw [if_neg (by simpa using hne)]
  refine ⟨b, o + n, ?_, hB, fun j hj => ?_⟩
  · simp only [Option.map_some, Addr.add, Int.toNat_natCast]
    split
    · rename_i h; rw [h]; rfl
    · rfl
  · rw [List.length_drop] at hj
    rw [List.getElem_drop]
    have := hcell (n + j) (by omega)
    rw [Nat.add_assoc]
    exact this

/-- A slice of n elements of 'size' cells each, below block B; R says what the cells of element i are. -/
def IsRows (w : World) (B size : Nat) (v : Value) (n : Nat) (R : Nat → List Value → Prop) : Prop :=
  ∃ (A : Option Addr) (c : Nat), v = .slice A n c ∧ n ≤ c ∧ n ≤ 1152921504606846976 ∧
    (0 < n → ∃ b o, A = some ⟨b, o, none⟩ ∧ b < B ∧ ∀ i, i < n → ∃ cs, R i cs ∧ ∀ (j : Nat) u, cs[j]? = some u → w.cell? ⟨b, o + i * size + j, none⟩ = some u)

theorem IsRows.below {w w' : World} {B size : Nat} {v : Value} {n : Nat} {R R' : Nat → List Value → Prop} (h : IsRows w B size v n R) (hb : Below B w w') (hR : ∀ i cs, R i cs → R' i cs) : IsRows w' B size v n R' := by
  obtain ⟨A, c, hv, hc, hn, hA⟩ := h
  refine ⟨A, c, hv, hc, hn, fun h0 => ?_⟩
  obtain ⟨b, o, hA, hB, hcell⟩ := hA h0
  refine ⟨b, o, hA, hB, fun i hi => ?_⟩
  obtain ⟨cs, h1, h2⟩ := hcell i hi
  exact ⟨cs, hR i cs h1, fun j u hu => (hb.cell (p := ⟨b, o + i * size + j, none⟩) hB).trans (h2 j u hu)⟩

theorem IsRows.mono {w : World} {B B' size : Nat} {v : Value} {n : Nat} {R : Nat → List Value → Prop} (h : IsRows w B size v n R) (hb : B ≤ B') : IsRows w B' size v n R := by
  obtain ⟨A, c, hv, hc, hn, hA⟩ := h
  refine ⟨A, c, hv, hc, hn, fun h0 => ?_⟩
  obtain ⟨b, o, hA, hB, hcell⟩ := hA h0
  exact ⟨b, o, hA, Nat.lt_of_lt_of_le hB hb, hcell⟩
end Go.Proofs.YtjeafniglnnkhaaGreatDoor

namespace Go.Proofs.YtjeafniglnnkhaaGreatDoor
open Go.RowKit

/-- A bound that every length of the model's keeps. -/
def big : Nat := 576460752303423488

def AskCells (l : List (ByteArray × Int)) (i : Nat) (cs : List Value) : Prop := ∃ h : i < l.length, cs = [.string l[i].1, .int .i64 l[i].2]
def GrpCells (l : List (ByteArray × ByteArray)) (i : Nat) (cs : List Value) : Prop := ∃ h : i < l.length, cs = [.string l[i].1, .string l[i].2]
def MsgCells (_ : Nat) (cs : List Value) : Prop := ∃ (t : ByteArray) (A : Option Addr) (m c : Nat) (q : Int) (r : Bool), cs = [.string t, .slice A m c, .int .i64 q, .bool r] ∧ t.size ≤ big ∧ m ≤ big
def FlightCells (_ : Nat) (cs : List Value) : Prop := ∃ (id : Int) (t : ByteArray) (A : Option Addr) (m c : Nat) (q : Int) (r rel : Bool), cs = [.int .i64 id, .string t, .slice A m c, .int .i64 q, .bool r, .bool rel] ∧ t.size ≤ big ∧ m ≤ big

structure Ses where
  client : ByteArray
  subs : List (ByteArray × Int)

structure SesCells (w : World) (B : Nat) (l : List Ses) (i : Nat) (cs : List Value) : Prop where
  lt : i < l.length
  rest : ∃ (vs vf vq : Value) (last : Int) (A : Option Addr) (nf nq ni c : Nat), cs = [.string l[i].client, vs, .int .i64 last, vf, vq, .slice A ni c] ∧ IsRows w B 2 vs l[i].subs.length (AskCells l[i].subs) ∧
    IsRows w B 6 vf nf FlightCells ∧ IsRows w B 4 vq nq MsgCells ∧ ni ≤ big
  client : l[i].client.size ≤ big
  subs : ∀ a ∈ l[i].subs, a.1.size ≤ big

theorem SesCells.below {w w' : World} {B : Nat} {l : List Ses} {i : Nat} {cs : List Value} (h : SesCells w B l i cs) (hb : Below B w w') : SesCells w' B l i cs := by
  obtain ⟨h1, ⟨vs, vf, vq, last, A, nf, nq, ni, c, e, r1, r2, r3, r4⟩, h2, h3⟩ := h
  exact ⟨h1, ⟨vs, vf, vq, last, A, nf, nq, ni, c, e, r1.below hb (fun _ _ h => h), r2.below hb (fun _ _ h => h), r3.below hb (fun _ _ h => h), r4⟩, h2, h3⟩

structure Img where
  ses : List Ses
  groups : List (ByteArray × ByteArray)

/-- The image's four values: how many clients without a name, sessions, retained messages, groups. -/
structure IsImg (w : World) (B : Nat) (vs vr vg : Value) (I : Img) : Prop where
  ses : IsRows w B 6 vs I.ses.length (SesCells w B I.ses)
  ret : ∃ n, IsRows w B 4 vr n MsgCells
  groups : IsRows w B 2 vg I.groups.length (GrpCells I.groups)
  gsize : ∀ g ∈ I.groups, g.1.size ≤ big ∧ g.2.size ≤ big

theorem IsImg.below {w w' : World} {B : Nat} {vs vr vg : Value} {I : Img} (h : IsImg w B vs vr vg I) (hb : Below B w w') : IsImg w' B vs vr vg I :=
  ⟨h.ses.below hb (fun _ _ h => h.below hb), let ⟨n, hr⟩ := h.ret; ⟨n, hr.below hb (fun _ _ h => h)⟩, h.groups.below hb (fun _ _ h => h), h.gsize⟩
end Go.Proofs.YtjeafniglnnkhaaGreatDoor

namespace Go.Proofs.YtjeafniglnnkhaaGreatDoor
open Go.RowKit

structure Near (B : Nat) (w : World) where
  world : World
  ok : Below B w world

instance (B : Nat) (w : World) : Nonempty (Near B w) := ⟨⟨w, Below.refl B w⟩⟩

theorem wp_region_near {P : Program} {id : Nat} {Q : Exit → Act → World → Prop} {a : Act} {w : World} {l : List Oper} (B : Nat) (hm : P.follows .mixedOrders = true) (hB : Region.lexB .any l.toArray = true)
    (h : wpQuiet P l.toArray (fun W => ∃ x : Near B w, W = x.world) (fun a' => ∀ W, (∃ x : Near B w, W = x.world) → Q .normal a' W) l a) : (Code.region id l.toArray true).wp P Q a w :=
  wp_region_quiet (C := fun W => ∃ x : Near B w, W = x.world) hm hB ⟨⟨_, (Below.refl B w).drew⟩, rfl⟩ (by simpa using h)

theorem Near.cell {B : Nat} {w : World} {b o : Nat} {v : Value} (hb : b < B) (h : w.cell? ⟨b, o, none⟩ = some v) (x : Near B w) : x.world.cell? ⟨b, o, none⟩ = some v := (x.ok.cell (p := ⟨b, o, none⟩) hb).trans h

theorem Near.call {P : Program} {B : Nat} {w : World} {x : Near B w} {f : FuncId} {args : Array Value} {v : Value} (hB : B ≤ w.heap.size)
    (h : Calls P f args x.world fun e w' => e = .returned v ∧ Below x.world.heap.size x.world w') : Calls P f args x.world fun e w'' => e = .returned v ∧ ∃ y : Near B w, w'' = y.world :=
  h.mono fun _ w' ⟨he, hb⟩ => ⟨he, ⟨w', x.ok.trans (hb.mono (Nat.le_trans hB x.ok.size))⟩, rfl⟩
end Go.Proofs.YtjeafniglnnkhaaGreatDoor
