/- Words: an image and a message that read as data lie in memory as the walks ask; their sizes are within the form's reach. -/
import Derived.Test.YtjeafniglnnkhaaGreatDoorHW0
import Derived.SizedLaws
import Derived.Deep.Slices
import Derived.Deep.Fields
import Derived.ChangeSame
import Derived.ChangeArms
import Derived.Lib.SmallJoins
import Derived.KernelRfl
namespace Go.Proofs.YtjeafniglnnkhaaGreatDoor
open Go.RowKit Go.ChangeShapes Go.WideShapes Go.Deep

section
variable {H : Type} {enc : TypeId × Value → H} {w : World} {base : Nat} {spare : Nat → Bool} {held : Bool}

/-- Every string and slice of the datum is within the reach. -/
def Fits (t : TypeId) (d : DataW H) : Prop := ∀ n ∈ d.weights Tryz.prog t, n ≤ reachBytes

theorem reach_big : reachBytes ≤ big := by decide

theorem Fits.str {t : TypeId} {b : List UInt8} (h : Fits (H := H) t (.lit (.string b))) : b.length ≤ big := Nat.le_trans (h _ (by simp [DataW.weights])) reach_big

theorem Fits.part {t : TypeId} {fs : Array Field} {ds : List (DataW H)} (hu : Tryz.prog.underlying t = some (.struct fs)) (h : Fits t (.agg ds)) {j : Nat} {f : Field} {d : DataW H} (hf : fs[j]? = some f) (hd : ds[j]? = some d) : Fits f.type d := by
  intro n hn
  refine h n ?_
  rw [DataW.weights, hu]
  exact DataW.weights_mem_each (ts := fs.toList.map (·.type)) (by simp [hf]) hd n hn

theorem weightsAll_mem {e : TypeId} : ∀ {ds : List (DataW H)} {d : DataW H}, d ∈ ds → ∀ n ∈ d.weights Tryz.prog e, n ∈ DataW.weightsAll Tryz.prog e ds
  | x :: ds, d, hd, n, hn => by
    rw [DataW.weightsAll, List.mem_append]
    rcases List.mem_cons.1 hd with rfl | h
    · exact .inl hn
    · exact .inr (weightsAll_mem h n hn)

theorem Fits.elem {t e : TypeId} {elems sp : List (DataW H)} (hu : Tryz.prog.underlying t = some (.slice e)) (h : Fits t (.slice elems sp)) {d : DataW H} (hd : d ∈ elems) : Fits e d := by
  intro n hn
  refine h n ?_
  rw [DataW.weights, hu]
  exact List.mem_cons_of_mem _ (List.mem_append_left _ (weightsAll_mem hd n hn))

theorem Fits.len {t e : TypeId} {elems sp : List (DataW H)} (hu : Tryz.prog.underlying t = some (.slice e)) (hb : 0 < Tryz.prog.bytesOf e) (h : Fits t (.slice elems sp)) : elems.length ≤ big := by
  have h1 := h ((elems.length + sp.length) * Tryz.prog.bytesOf e) (by rw [DataW.weights, hu]; exact List.mem_cons_self)
  have h2 : elems.length + sp.length ≤ (elems.length + sp.length) * Tryz.prog.bytesOf e := Nat.le_mul_of_pos_right _ hb
  have := reach_big
  omega

/-- Opened, its cells and what they read as. -/
structure Reads (w : World) (enc : TypeId × Value → H) (base : Nat) (spare : Nat → Bool) (held : Bool) (t : TypeId) (cs : List Value) : Prop where
  ex : ∃ (n : Nat) (y : DataW H × List MemPlace), DataW.trod enc Tryz.prog w base spare held n t cs = some y ∧ Fits t y.1

theorem Reads.string {cs : List Value} {t : TypeId} (hu : Tryz.prog.underlying t = some .string) (h : Reads w enc base spare held t cs) : ∃ s : ByteArray, cs = [.string s] ∧ s.size ≤ big := by
  obtain ⟨n, y, h, hf⟩ := h
  obtain ⟨s, rfl, rfl, _⟩ := DataW.trod_string hu h
  exact ⟨s, rfl, by have := hf.str; simpa using this⟩
theorem Reads.int {cs : List Value} {t : TypeId} (hu : Tryz.prog.underlying t = some (.int .i64)) (h : Reads w enc base spare held t cs) : ∃ n, cs = [.int .i64 n] := by
  obtain ⟨n, y, h, hf⟩ := h
  obtain ⟨s, rfl, _⟩ := DataW.trod_int hu h
  exact ⟨s, rfl⟩
theorem Reads.bool {cs : List Value} {t : TypeId} (hu : Tryz.prog.underlying t = some .bool) (h : Reads w enc base spare held t cs) : ∃ n, cs = [.bool n] := by
  obtain ⟨n, y, h, hf⟩ := h
  obtain ⟨s, rfl, _⟩ := DataW.trod_bool hu h
  exact ⟨s, rfl⟩

theorem Reads.struct {cs : List Value} {t : TypeId} {fs : Array Field} (hu : Tryz.prog.underlying t = some (.struct fs)) (h : Reads w enc base spare held t cs) :
    cs.length = Tryz.prog.cellsOf t ∧ ∀ (j : Nat) (f : Field), fs[j]? = some f → Reads w enc base spare held f.type ((cs.drop f.offset).take (Tryz.prog.cellsOf f.type)) := by
  obtain ⟨n, y, h, hf⟩ := h
  obtain ⟨xs, m, _, rfl, hlen, hxl, hfs⟩ := DataW.trod_struct hu h
  refine ⟨hlen, fun j f hj => ?_⟩
  have h1 := hfs j f hj
  have hjl : j < xs.length := by rw [hxl]; exact (Array.getElem?_eq_some_iff.1 hj).1
  rw [List.getElem?_eq_getElem hjl] at h1
  exact ⟨m, _, h1, hf.part hu hj (by simp [hjl])⟩

theorem Reads.rows {v : Value} {t e : TypeId} (size : Nat) (hu : Tryz.prog.underlying t = some (.slice e)) (hC : Tryz.prog.cellsOf e = size) (hs0 : 0 < size) (hb : 0 < Tryz.prog.bytesOf e) (h : Reads w enc base spare held t [v]) :
    ∃ n, n ≤ big ∧ (∃ A c, v = .slice A n c) ∧ IsRows w w.heap.size size v n (fun _ cs => Reads w enc base spare held e cs) := by
  obtain ⟨m, y, h, hf⟩ := h
  rcases open_slice hu h with ⟨h1, _⟩ | ⟨a, len, cap, k, n, D, Pl, hcs, hbl, hle, hcm, hk, hx, hel⟩
  · injection h1 with h1
    subst h1
    exact ⟨0, by decide, ⟨_, _, rfl⟩, none, 0, rfl, Nat.le_refl _, by decide, fun h => absurd h (by decide)⟩
  · injection hcs with hcs
    subst hcs
    have hy1 : y.1 = .slice ((List.range len).map D) ((List.range (k - len)).map fun j => D (len + j)) := by rw [hx]
    rw [hy1] at hf
    have hlb := hf.len hu hb
    simp at hlb
    have hkl : len ≤ k := by rw [hk]; split <;> omega
    rw [hC] at hel
    have hcell : ∀ i, i < len → ∃ cs, Reads w enc base spare held e cs ∧ ∀ (j : Nat) u, cs[j]? = some u → w.cell? (a.add (i * size + j)) = some u := fun i hi => by
      obtain ⟨cs', h1, h2⟩ := hel i (by omega)
      obtain ⟨_, hcl, hat⟩ := World.cells?_some h1
      refine ⟨cs', ⟨n, _, h2, hf.elem hu (List.mem_map.2 ⟨i, List.mem_range.2 hi, rfl⟩)⟩, fun j u hj => ?_⟩
      have hjs : j < size := by have := (List.getElem?_eq_some_iff.1 hj).1; omega
      rw [← add_add, hat j hjs, hj]
    refine ⟨len, hlb, ⟨_, _, rfl⟩, some a, cap, rfl, hle, by unfold big at hlb; omega, fun h0 => ?_⟩
    have hfst : ∃ u, w.cell? (a.add (0 * size + 0)) = some u := by
      obtain ⟨cs', h1, h2⟩ := hel 0 (by omega)
      obtain ⟨_, hcl, hat⟩ := World.cells?_some h1
      have h3 := hat 0 hs0
      rw [List.getElem?_eq_getElem (by omega)] at h3
      exact ⟨_, by rw [← add_add]; exact h3⟩
    obtain ⟨u0, hu0⟩ := hfst
    have hadd0 : a.add (0 * size + 0) = a := by simp [Addr.add]
    rw [hadd0] at hu0
    obtain ⟨b, o, p⟩ := a
    have hp : p = none := by
      cases p with
      | none => rfl
      | some q =>
        exfalso
        simp [World.cell?] at hu0
        split at hu0 <;> cases hu0
    subst hp
    refine ⟨b, o, rfl, World.block_lt_of_cell? w _ hu0, fun i hi => ?_⟩
    obtain ⟨cs, h1, h2⟩ := hcell i hi
    refine ⟨cs, h1, fun j u hj => ?_⟩
    have h3 := h2 j u hj
    have hadd : (⟨b, o, none⟩ : Addr).add (i * size + j) = ⟨b, o + i * size + j, none⟩ := by
      unfold Addr.add
      split
      · rename_i h
        rw [show o + i * size + j = o by omega]
      · rw [show o + i * size + j = o + (i * size + j) by omega]
    rwa [hadd] at h3

/-! ### the program's types -/
theorem cells9 : Tryz.prog.cellsOf 9 = 1 := by kernel_rfl
theorem cells3 : Tryz.prog.cellsOf 3 = 1 := by kernel_rfl
theorem cells4 : Tryz.prog.cellsOf 4 = 1 := by kernel_rfl
theorem cells5 : Tryz.prog.cellsOf 5 = 1 := by kernel_rfl
theorem cells27 : Tryz.prog.cellsOf 27 = 1 := by kernel_rfl
theorem cells41 : Tryz.prog.cellsOf 41 = 1 := by kernel_rfl
theorem cells42 : Tryz.prog.cellsOf 42 = 1 := by kernel_rfl
theorem cells23 : Tryz.prog.cellsOf 23 = 1 := by kernel_rfl
theorem cells22 : Tryz.prog.cellsOf 22 = 1 := by kernel_rfl
theorem cells24 : Tryz.prog.cellsOf 24 = 1 := by kernel_rfl
theorem cells45 : Tryz.prog.cellsOf 45 = 1 := by kernel_rfl
theorem cells44 : Tryz.prog.cellsOf 44 = 3 := by kernel_rfl
theorem cells29 : Tryz.prog.cellsOf 29 = 4 := by kernel_rfl
theorem cells47 : Tryz.prog.cellsOf 47 = 6 := by kernel_rfl
theorem cells49 : Tryz.prog.cellsOf 49 = 2 := by kernel_rfl
theorem cells51 : Tryz.prog.cellsOf 51 = 2 := by kernel_rfl
theorem cells120 : Tryz.prog.cellsOf 120 = 6 := by kernel_rfl
theorem cells26 : Tryz.prog.cellsOf 26 = 4 := by kernel_rfl
theorem bytes_pos {e : TypeId} (h : (Tryz.prog.bytesOf e == 0) = false) : 0 < Tryz.prog.bytesOf e := by
  rcases Nat.eq_zero_or_pos (Tryz.prog.bytesOf e) with h0 | h0
  · rw [h0] at h; cases h
  · exact h0
end

section
variable {H : Type} {enc : TypeId × Value → H} {w : World} {base : Nat} {spare : Nat → Bool} {held : Bool}

theorem list2 {α : Type} {l : List α} (h : l.length = 2) : ∃ a b, l = [a, b] := by
  match l, h with
  | [a, b], _ => exact ⟨a, b, rfl⟩
theorem list4 {α : Type} {l : List α} (h : l.length = 4) : ∃ a b c d, l = [a, b, c, d] := by
  match l, h with
  | [a, b, c, d], _ => exact ⟨a, b, c, d, rfl⟩
theorem list6 {α : Type} {l : List α} (h : l.length = 6) : ∃ a b c d e f, l = [a, b, c, d, e, f] := by
  match l, h with
  | [a, b, c, d, e, f], _ => exact ⟨a, b, c, d, e, f, rfl⟩

theorem read_ask {cs : List Value} (h : Reads w enc base spare held 49 cs) : ∃ a : ByteArray × Int, cs = [.string a.1, .int .i64 a.2] ∧ a.1.size ≤ big := by
  obtain ⟨hl, hf⟩ := h.struct Tryz.underlying49
  rw [cells49] at hl
  obtain ⟨c0, c1, rfl⟩ := list2 hl
  have h0 : Reads w enc base spare held 9 (([c0, c1].drop 0).take (Tryz.prog.cellsOf 9)) := hf 0 _ rfl
  have h1 : Reads w enc base spare held 3 (([c0, c1].drop 1).take (Tryz.prog.cellsOf 3)) := hf 1 _ rfl
  rw [cells9] at h0
  rw [cells3] at h1
  obtain ⟨s, e0, hs⟩ := h0.string Tryz.underlying9
  obtain ⟨q, e1⟩ := h1.int Tryz.underlying3
  simp at e0 e1
  subst e0 e1
  exact ⟨(s, q), rfl, hs⟩

theorem read_grp {cs : List Value} (h : Reads w enc base spare held 51 cs) : ∃ a : ByteArray × ByteArray, cs = [.string a.1, .string a.2] ∧ a.1.size ≤ big ∧ a.2.size ≤ big := by
  obtain ⟨hl, hf⟩ := h.struct Tryz.underlying51
  rw [cells51] at hl
  obtain ⟨c0, c1, rfl⟩ := list2 hl
  have h0 : Reads w enc base spare held 9 (([c0, c1].drop 0).take (Tryz.prog.cellsOf 9)) := hf 0 _ rfl
  have h1 : Reads w enc base spare held 9 (([c0, c1].drop 1).take (Tryz.prog.cellsOf 9)) := hf 1 _ rfl
  rw [cells9] at h0
  rw [cells9] at h1
  obtain ⟨s, e0, hs⟩ := h0.string Tryz.underlying9
  obtain ⟨q, e1, hq⟩ := h1.string Tryz.underlying9
  simp at e0 e1
  subst e0 e1
  exact ⟨(s, q), rfl, hs, hq⟩

theorem bytes5 : 0 < Tryz.prog.bytesOf 5 := bytes_pos (by kernel_rfl)
theorem bytes3 : 0 < Tryz.prog.bytesOf 3 := bytes_pos (by kernel_rfl)
theorem bytes29 : 0 < Tryz.prog.bytesOf 29 := bytes_pos (by kernel_rfl)
theorem bytes47 : 0 < Tryz.prog.bytesOf 47 := bytes_pos (by kernel_rfl)
theorem bytes49 : 0 < Tryz.prog.bytesOf 49 := bytes_pos (by kernel_rfl)
theorem bytes51 : 0 < Tryz.prog.bytesOf 51 := bytes_pos (by kernel_rfl)
theorem bytes120 : 0 < Tryz.prog.bytesOf 120 := bytes_pos (by kernel_rfl)

/-- A message's four cells. -/
def IsMsg (cs : List Value) : Prop := ∃ (t : ByteArray) (A : Option Addr) (m c : Nat) (q : Int) (r : Bool), cs = [.string t, .slice A m c, .int .i64 q, .bool r] ∧ t.size ≤ big ∧ m ≤ big

theorem read_msg {cs : List Value} (h : Reads w enc base spare held 29 cs) : IsMsg cs := by
  obtain ⟨hl, hf⟩ := h.struct Tryz.underlying29
  rw [cells29] at hl
  obtain ⟨c0, c1, c2, c3, rfl⟩ := list4 hl
  have h0 : Reads w enc base spare held 9 (([c0, c1, c2, c3].drop 0).take (Tryz.prog.cellsOf 9)) := hf 0 _ rfl
  have h1 : Reads w enc base spare held 27 (([c0, c1, c2, c3].drop 1).take (Tryz.prog.cellsOf 27)) := hf 1 _ rfl
  have h2 : Reads w enc base spare held 3 (([c0, c1, c2, c3].drop 2).take (Tryz.prog.cellsOf 3)) := hf 2 _ rfl
  have h3 : Reads w enc base spare held 4 (([c0, c1, c2, c3].drop 3).take (Tryz.prog.cellsOf 4)) := hf 3 _ rfl
  rw [cells9] at h0
  rw [cells27] at h1
  rw [cells3] at h2
  rw [cells4] at h3
  obtain ⟨s, e0, hs⟩ := h0.string Tryz.underlying9
  obtain ⟨n, hn, ⟨A, c, e1⟩, _⟩ := Reads.rows (v := c1) 1 Tryz.underlying27 cells5 (by decide) bytes5 (by simpa using h1)
  obtain ⟨q, e2⟩ := h2.int Tryz.underlying3
  obtain ⟨r, e3⟩ := h3.bool Tryz.underlying4
  simp at e0 e2 e3
  subst e0 e1 e2 e3
  exact ⟨s, A, n, c, q, r, rfl, hs, hn⟩

theorem read_flight {cs : List Value} (h : Reads w enc base spare held 120 cs) (i : Nat) : FlightCells i cs := by
  obtain ⟨hl, hf⟩ := h.struct Tryz.underlying120
  rw [cells120] at hl
  obtain ⟨c0, c1, c2, c3, c4, c5, rfl⟩ := list6 hl
  have h0 : Reads w enc base spare held 3 (([c0, c1, c2, c3, c4, c5].drop 0).take (Tryz.prog.cellsOf 3)) := hf 0 _ rfl
  have h1 : Reads w enc base spare held 29 (([c0, c1, c2, c3, c4, c5].drop 1).take (Tryz.prog.cellsOf 29)) := hf 1 _ rfl
  have h2 : Reads w enc base spare held 4 (([c0, c1, c2, c3, c4, c5].drop 5).take (Tryz.prog.cellsOf 4)) := hf 2 _ rfl
  rw [cells3] at h0
  rw [cells29] at h1
  rw [cells4] at h2
  obtain ⟨n, e0⟩ := h0.int Tryz.underlying3
  obtain ⟨t, A, m, c, q, r, e1, ht, hm⟩ := read_msg h1
  obtain ⟨b, e2⟩ := h2.bool Tryz.underlying4
  simp at e0 e1 e2
  obtain ⟨rfl, rfl, rfl, rfl⟩ := e1
  subst e0 e2
  exact ⟨n, t, A, m, c, q, r, b, rfl, ht, hm⟩

theorem choose_list {α : Type} {P : Nat → α → Prop} : ∀ n, (∀ i, i < n → ∃ a, P i a) → ∃ l : List α, l.length = n ∧ ∀ i (h : i < l.length), P i l[i]
  | 0, _ => ⟨[], rfl, fun i h => by simp at h⟩
  | n + 1, h => by
    obtain ⟨l, hl, hP⟩ := choose_list n (fun i hi => h i (by omega))
    obtain ⟨a, ha⟩ := h n (by omega)
    refine ⟨l ++ [a], by simp [hl], fun i hi => ?_⟩
    rcases Nat.lt_or_ge i l.length with h1 | h1
    · rw [List.getElem_append_left h1]; exact hP i h1
    · have : i = l.length := by simp at hi; omega
      subst this
      simp
      rw [hl]
      exact ha

theorem rows_choose {α : Type} {B size n : Nat} {v : Value} {R : Nat → List Value → Prop} {Q : Nat → α → List Value → Prop} (h : IsRows w B size v n R) (hQ : ∀ i, i < n → ∀ cs, R i cs → ∃ a, Q i a cs) :
    ∃ l : List α, l.length = n ∧ IsRows w B size v n (fun i cs => ∃ h : i < l.length, Q i l[i] cs) ∧ ∀ i (h : i < l.length), ∃ cs, Q i l[i] cs := by
  obtain ⟨A, c, hv, hc, hn, hA⟩ := h
  rcases Nat.eq_zero_or_pos n with rfl | hpos
  · exact ⟨[], rfl, ⟨A, c, hv, hc, hn, fun h => absurd h (by omega)⟩, fun i h => by simp at h⟩
  · obtain ⟨b, o, hA', hb, hcell⟩ := hA hpos
    obtain ⟨l, hl, hP⟩ := choose_list (P := fun i a => ∃ cs, Q i a cs ∧ ∀ (j : Nat) u, cs[j]? = some u → w.cell? ⟨b, o + i * size + j, none⟩ = some u) n (fun i hi => by
      obtain ⟨cs, h1, h2⟩ := hcell i hi
      obtain ⟨a, ha⟩ := hQ i hi cs h1
      exact ⟨a, cs, ha, h2⟩)
    refine ⟨l, hl, ⟨A, c, hv, hc, hn, fun _ => ⟨b, o, hA', hb, fun i hi => ?_⟩⟩, fun i hi => ?_⟩
    · obtain ⟨cs, h1, h2⟩ := hP i (by omega)
      exact ⟨cs, ⟨by omega, h1⟩, h2⟩
    · obtain ⟨cs, h1, _⟩ := hP i hi
      exact ⟨cs, h1⟩

theorem rows_to {B size n : Nat} {v : Value} {R R' : Nat → List Value → Prop} (h : IsRows w B size v n R) (hR : ∀ i cs, R i cs → R' i cs) : IsRows w B size v n R' := by
  obtain ⟨A, c, hv, hc, hn, hA⟩ := h
  refine ⟨A, c, hv, hc, hn, fun h0 => ?_⟩
  obtain ⟨b, o, hA, hB, hcell⟩ := hA h0
  refine ⟨b, o, hA, hB, fun i hi => ?_⟩
  obtain ⟨cs, h1, h2⟩ := hcell i hi
  exact ⟨cs, hR i cs h1, h2⟩

/-- What a session's cells say. -/
def SesReads (w : World) (S : Ses) (cs : List Value) : Prop :=
  (∃ (vs vf vq : Value) (last : Int) (A : Option Addr) (nf nq ni c : Nat), cs = [.string S.client, vs, .int .i64 last, vf, vq, .slice A ni c] ∧ IsRows w w.heap.size 2 vs S.subs.length (AskCells S.subs) ∧
    IsRows w w.heap.size 6 vf nf FlightCells ∧ IsRows w w.heap.size 4 vq nq MsgCells ∧ ni ≤ big) ∧ S.client.size ≤ big ∧ ∀ a ∈ S.subs, a.1.size ≤ big

theorem read_ses {cs : List Value} (h : Reads w enc base spare held 47 cs) : ∃ S, SesReads w S cs := by
  obtain ⟨hl, hf⟩ := h.struct Tryz.underlying47
  rw [cells47] at hl
  obtain ⟨c0, c1, c2, c3, c4, c5, rfl⟩ := list6 hl
  have h0 : Reads w enc base spare held 9 (([c0, c1, c2, c3, c4, c5].drop 0).take (Tryz.prog.cellsOf 9)) := hf 0 _ rfl
  have h1 : Reads w enc base spare held 41 (([c0, c1, c2, c3, c4, c5].drop 1).take (Tryz.prog.cellsOf 41)) := hf 1 _ rfl
  have h2 : Reads w enc base spare held 44 (([c0, c1, c2, c3, c4, c5].drop 2).take (Tryz.prog.cellsOf 44)) := hf 2 _ rfl
  have h3 : Reads w enc base spare held 45 (([c0, c1, c2, c3, c4, c5].drop 5).take (Tryz.prog.cellsOf 45)) := hf 3 _ rfl
  rw [cells9] at h0
  rw [cells41] at h1
  rw [cells44] at h2
  rw [cells45] at h3
  obtain ⟨s, e0, hs⟩ := h0.string Tryz.underlying9
  obtain ⟨n, hn, _, hr⟩ := Reads.rows (v := c1) 2 Tryz.underlying41 cells49 (by decide) bytes49 (by simpa using h1)
  obtain ⟨l, hll, hrl, hex⟩ := rows_choose (Q := fun _ (a : ByteArray × Int) cs => cs = [.string a.1, .int .i64 a.2] ∧ a.1.size ≤ big) hr (fun i _ cs hcs => read_ask hcs)
  obtain ⟨hl2, hf2⟩ := h2.struct Tryz.underlying44
  have g0 : Reads w enc base spare held 3 (([c2, c3, c4].drop 0).take (Tryz.prog.cellsOf 3)) := hf2 0 _ rfl
  have g1 : Reads w enc base spare held 42 (([c2, c3, c4].drop 1).take (Tryz.prog.cellsOf 42)) := hf2 1 _ rfl
  have g2 : Reads w enc base spare held 23 (([c2, c3, c4].drop 2).take (Tryz.prog.cellsOf 23)) := hf2 2 _ rfl
  rw [cells3] at g0
  rw [cells42] at g1
  rw [cells23] at g2
  obtain ⟨last, e2⟩ := g0.int Tryz.underlying3
  obtain ⟨nf, _, _, hrf⟩ := Reads.rows (v := c3) 6 Tryz.underlying42 cells120 (by decide) bytes120 (by simpa using g1)
  obtain ⟨nq, _, _, hrq⟩ := Reads.rows (v := c4) 4 Tryz.underlying23 cells29 (by decide) bytes29 (by simpa using g2)
  obtain ⟨ni, hni, ⟨A, c, e5⟩, _⟩ := Reads.rows (v := c5) 1 Tryz.underlying45 cells3 (by decide) bytes3 (by simpa using h3)
  simp at e0 e2
  subst e0 e2 e5
  refine ⟨⟨s, l⟩, ⟨c1, c3, c4, last, A, nf, nq, ni, c, rfl, ?_, rows_to hrf (fun i cs h => read_flight h i), rows_to hrq (fun i cs h => read_msg h), hni⟩, hs, fun a ha => ?_⟩
  · show IsRows w w.heap.size 2 c1 l.length (AskCells l)
    rw [hll]
    exact rows_to hrl (fun i cs ⟨h1, h2, _⟩ => ⟨h1, h2⟩)
  · obtain ⟨i, hi, rfl⟩ := List.getElem_of_mem ha
    obtain ⟨cs, _, hz⟩ := hex i hi
    exact hz

/-- AN IMAGE THAT READS AS DATA. -/
theorem read_img {vs vr vg : Value} (h1 : Reads w enc base spare held 22 [vs]) (h2 : Reads w enc base spare held 23 [vr]) (h3 : Reads w enc base spare held 24 [vg]) : ∃ I, IsImg w w.heap.size vs vr vg I := by
  obtain ⟨n, _, _, hr⟩ := Reads.rows (v := vs) 6 Tryz.underlying22 cells47 (by decide) bytes47 h1
  obtain ⟨l, hll, hrl, hex⟩ := rows_choose (Q := fun _ (S : Ses) cs => SesReads w S cs) hr (fun i _ cs hcs => read_ses hcs)
  obtain ⟨nr, _, _, hrr⟩ := Reads.rows (v := vr) 4 Tryz.underlying23 cells29 (by decide) bytes29 h2
  obtain ⟨ng, _, _, hrg⟩ := Reads.rows (v := vg) 2 Tryz.underlying24 cells51 (by decide) bytes51 h3
  obtain ⟨gl, hgl, hgr, hgex⟩ := rows_choose (Q := fun _ (a : ByteArray × ByteArray) cs => cs = [.string a.1, .string a.2] ∧ a.1.size ≤ big ∧ a.2.size ≤ big) hrg (fun i _ cs hcs => read_grp hcs)
  refine ⟨⟨l, gl⟩, ?_, ⟨nr, rows_to hrr (fun i cs h => read_msg h)⟩, ?_, fun g hg => ?_⟩
  · show IsRows w w.heap.size 6 vs l.length (SesCells w w.heap.size l)
    rw [hll]
    exact rows_to hrl (fun i cs ⟨h1, h2, h3, h4⟩ => ⟨h1, h2, h3, h4⟩)
  · show IsRows w w.heap.size 2 vg gl.length (GrpCells gl)
    rw [hgl]
    exact rows_to hgr (fun i cs ⟨h1, h2, _⟩ => ⟨h1, h2⟩)
  · obtain ⟨i, hi, rfl⟩ := List.getElem_of_mem hg
    obtain ⟨cs, _, hz⟩ := hgex i hi
    exact hz
end
end Go.Proofs.YtjeafniglnnkhaaGreatDoor
