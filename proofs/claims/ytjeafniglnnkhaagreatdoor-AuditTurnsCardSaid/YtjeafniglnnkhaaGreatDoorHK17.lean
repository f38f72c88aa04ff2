/- Plain facts: what known's images answer. -/
/- Words: known's images in memory. -/
/- Words: known's second and third image in memory. -/
import Derived.Test.YtjeafniglnnkhaaGreatDoorHK15
import Derived.Test.YtjeafniglnnkhaaGreatDoorHF10
import Derived.Test.YtjeafniglnnkhaaGreatDoorHS7
namespace Go.Proofs.YtjeafniglnnkhaaGreatDoor
open Go.RowKit

def kG : ByteArray := ⟨#[36, 115, 104, 97, 114, 101, 47, 103, 47, 116]⟩
def kT : ByteArray := ⟨#[116]⟩
def subs1 : List (ByteArray × Int) := [(kAPlus, 1), (kAB, 1), (kAC, 2)]
def ses1 : List FSes := [⟨kC, subs1, []⟩]
def ses2 : List FSes := [⟨kA, [(kG, 1)], []⟩, ⟨kB, [(kG, 2)], []⟩]
def ses3 : List FSes := [⟨kC, subs1, []⟩, ⟨kB, [], [5, 5]⟩]
def kWf (f g : ByteArray) : Bool := f.toList == kAB.toList && g.toList == kAPlus.toList

def bare (l : List FSes) : List Ses := l.map fun s => ⟨s.client, s.subs⟩
def img (l : List FSes) (gs : List (ByteArray × ByteArray)) : Img := ⟨bare l, gs⟩

/-! ### Spare -/
theorem sp1 : spAll kWf (bare ses1) = [(kC, kAB, kAPlus)] := by kernel_rfl
theorem sp2 : spAll kWf (bare ses2) = [] := by kernel_rfl

theorem withins1 : WithinsOf kWf subs1 := by
  intro i k hi hk hne hsh hq hN
  have hi3 : i < 3 := hi
  have hk3 : k < 3 := hk
  have h01 : ∀ W, Calls Tryz.prog 70 #[.string kAPlus, .string kAB] W fun e w' => e = .returned (.bool false) ∧ Below W.heap.size W w' := fun W => within_no kAPlus kAB kA kPlus kB W two_aplus two_ab (by kernel_rfl) (by kernel_rfl) (of_decide_eq_true (by kernel_rfl))
  have h02 : ∀ W, Calls Tryz.prog 70 #[.string kAPlus, .string kAC] W fun e w' => e = .returned (.bool false) ∧ Below W.heap.size W w' := fun W => within_no kAPlus kAC kA kPlus kC W two_aplus two_ac (by kernel_rfl) (by kernel_rfl) (of_decide_eq_true (by kernel_rfl))
  have h10 : ∀ W, Calls Tryz.prog 70 #[.string kAB, .string kAPlus] W fun e w' => e = .returned (.bool true) ∧ Below W.heap.size W w' := fun W => within_yes kAB kAPlus kA kB kPlus W two_ab two_aplus (by kernel_rfl) (by kernel_rfl)
  have e01 : kWf kAPlus kAB = false := by kernel_rfl
  have e02 : kWf kAPlus kAC = false := by kernel_rfl
  have e10 : kWf kAB kAPlus = true := by kernel_rfl
  have g01 : ∀ W, Calls Tryz.prog 70 #[.string kAPlus, .string kAB] W fun e w' => e = .returned (.bool (kWf kAPlus kAB)) ∧ Below W.heap.size W w' := by rw [e01]; exact h01
  have g02 : ∀ W, Calls Tryz.prog 70 #[.string kAPlus, .string kAC] W fun e w' => e = .returned (.bool (kWf kAPlus kAC)) ∧ Below W.heap.size W w' := by rw [e02]; exact h02
  have g10 : ∀ W, Calls Tryz.prog 70 #[.string kAB, .string kAPlus] W fun e w' => e = .returned (.bool (kWf kAB kAPlus)) ∧ Below W.heap.size W w' := by rw [e10]; exact h10
  match i, k, hi3, hk3 with
  | 0, 0, _, _ => exact absurd rfl hne
  | 0, 1, _, _ => exact ⟨g01, fun h => absurd (show kWf kAPlus kAB = true from h) (by rw [e01]; decide)⟩
  | 0, 2, _, _ => exact ⟨g02, fun h => absurd (show kWf kAPlus kAC = true from h) (by rw [e02]; decide)⟩
  | 1, 0, _, _ => exact ⟨g10, fun _ => g01⟩
  | 1, 1, _, _ => exact absurd rfl hne
  | 1, 2, _, _ => exact absurd (hN 0 (by decide)) (by rw [show spS kWf subs1 1 0 = true by kernel_rfl]; decide)
  | 2, 0, _, _ => exact absurd (show (1 : Int) < 2 by decide) hq
  | 2, 1, _, _ => exact absurd (show (1 : Int) < 2 by decide) hq
  | 2, 2, _, _ => exact absurd rfl hne

theorem withins_one (f : ByteArray) (q : Int) : WithinsOf kWf [(f, q)] := by
  intro i k hi hk hne
  simp at hi hk
  omega

/-! ### Who, Could -/
theorem isg_of {m : KeyMap} {c : ByteArray} {q : Int} (h : ∀ y, m y = if y = c.data.toList then some q else none) : IsGathered m [(c, q)] := by
  refine ⟨by simp, fun k r => ?_⟩
  rw [h]
  constructor
  · intro hk
    simp at hk
    obtain ⟨rfl, rfl⟩ := hk
    rw [if_pos rfl]
  · intro hk
    split at hk
    · rename_i he
      injection hk with hk
      rw [bytes_inj he, hk]
      simp
    · cases hk

def who1 (t : ByteArray) : KeyMap := sesM (fun a => matchS a.1 t) (bare ses1) fun _ => none

theorem sesM1 (p : ByteArray × Int → Bool) : ∀ y, sesM p (bare ses1) (fun _ => none) y = if y = kC.data.toList then (subsM p kC.data.toList subs1 (fun _ => none)) kC.data.toList else none := fun y => by
  show subsM p kC.data.toList subs1 (fun _ => none) y = _
  split
  · rename_i h; rw [h]
  · rename_i h; rw [subsM_keep p _ _ h]

theorem whoAC : IsGathered (sesM (fun a => matchS a.1 kAC) (bare ses1) fun _ => none) [(kC, 2)] := isg_of fun y => by
  rw [sesM1, show subsM (fun a => matchS a.1 kAC) kC.data.toList subs1 (fun _ => none) kC.data.toList = some 2 by kernel_rfl]
theorem whoAB : IsGathered (sesM (fun a => matchS a.1 kAB) (bare ses1) fun _ => none) [(kC, 1)] := isg_of fun y => by
  rw [sesM1, show subsM (fun a => matchS a.1 kAB) kC.data.toList subs1 (fun _ => none) kC.data.toList = some 1 by kernel_rfl]
theorem could1 : IsGathered (sesM (fun _ => true) (bare ses1) fun _ => none) [(kC, 2)] := isg_of fun y => by
  rw [sesM1, show subsM (fun _ => true) kC.data.toList subs1 (fun _ => none) kC.data.toList = some 2 by kernel_rfl]
theorem isg_none {m : KeyMap} (h : ∀ y, m y = none) : IsGathered m [] := ⟨by simp, fun k r => by rw [h]; simp⟩
theorem whoB : IsGathered (sesM (fun a => matchS a.1 kB) (bare ses1) fun _ => none) [] := isg_none fun y => by
  rw [sesM1, show subsM (fun a => matchS a.1 kB) kC.data.toList subs1 (fun _ => none) kC.data.toList = none by kernel_rfl]
  simp
theorem whoT : IsGathered (sesM (fun a => matchS a.1 kT) (bare ses2) fun _ => none) [] := isg_none fun y => by
  have h : matchS kG kT = false := by kernel_rfl
  have h1 : subsM (fun a => matchS a.1 kT) kA.data.toList [(kG, 1)] (fun _ => none) = fun _ => none := (show stepM (fun a => matchS a.1 kT) kA.data.toList (fun _ => none) (kG, 1) = _ from step_no h)
  have h2 : subsM (fun a => matchS a.1 kT) kB.data.toList [(kG, 2)] (fun _ => none) = fun _ => none := (show stepM (fun a => matchS a.1 kT) kB.data.toList (fun _ => none) (kG, 2) = _ from step_no h)
  show subsM (fun a => matchS a.1 kT) kB.data.toList [(kG, 2)] (subsM (fun a => matchS a.1 kT) kA.data.toList [(kG, 1)] (fun _ => none)) y = none
  rw [h1, h2]

/-! ### Shares -/
theorem turns2 : turnsOf kT (bare ses2) = [kG] := by
  have hf : filtersS kT (bare ses2) = [kG, kG] := by kernel_rfl
  have hp := sortedS_perm [kG, kG]
  have hs : sortedS [kG, kG] = [kG, kG] := List.perm_replicate.1 (show (sortedS [kG, kG]).Perm (List.replicate 2 kG) from hp)
  have hc : (Go.Lib.compact ([kG, kG].map (·.data.toList))).map bytesOf = [kG] := by kernel_rfl
  unfold turnsOf
  rw [hf, hs]
  exact hc

theorem gath2 : IsGathered (sesM (onF kG) (bare ses2) fun _ => none) [(kA, 1), (kB, 2)] := by
  have h1 : ∀ y, sesM (onF kG) (bare ses2) (fun _ => none) y = if y = kB.data.toList then some 2 else if y = kA.data.toList then some 1 else none := by
    intro y
    have e1 : subsM (onF kG) kA.data.toList [(kG, 1)] (fun _ => none) = fun y => if y = kA.data.toList then some 1 else none := (show stepM (onF kG) kA.data.toList (fun _ => none) (kG, 1) = _ from step_new (by kernel_rfl) (by kernel_rfl) rfl)
    have e2 : subsM (onF kG) kB.data.toList [(kG, 2)] (fun y => if y = kA.data.toList then some 1 else none) = fun y => if y = kB.data.toList then some 2 else if y = kA.data.toList then some 1 else none :=
      (show stepM (onF kG) kB.data.toList (fun y => if y = kA.data.toList then some 1 else none) (kG, 2) = _ from step_new (by kernel_rfl) (by kernel_rfl) (by kernel_rfl))
    show subsM (onF kG) kB.data.toList [(kG, 2)] (subsM (onF kG) kA.data.toList [(kG, 1)] (fun _ => none)) y = _
    rw [e1, e2]
  have hne : kA.data.toList ≠ kB.data.toList := by decide
  refine ⟨List.pairwise_cons.2 ⟨fun b hb => by simp at hb; subst hb; exact (show cmpS kA kB = -1 by kernel_rfl), by simp⟩, fun k r => ?_⟩
  rw [h1]
  constructor
  · intro hk
    simp at hk
    rcases hk with ⟨rfl, rfl⟩ | ⟨rfl, rfl⟩
    · rw [if_neg hne, if_pos rfl]
    · rw [if_pos rfl]
  · intro hk
    split at hk
    · rename_i he
      injection hk with hk
      rw [bytes_inj he, hk]
      simp
    · split at hk
      · rename_i he
        injection hk with hk
        rw [bytes_inj he, hk]
        simp
      · cases hk

theorem shares2 (key : ByteArray) (l : List (ByteArray × ByteArray × Int)) (h : IsShares (img ses2 [(kG, key)]) kT 2 l) : l = [(kG, (pickS [(kG, key)] kG [(kA, 1), (kB, 2)]).1, min (pickS [(kG, key)] kG [(kA, 1), (kB, 2)]).2 2)] := by
  have hg : goodB 2 = true := by kernel_rfl
  have ht : turnsOf kT (img ses2 [(kG, key)]).ses = [kG] := turns2
  have hl := h.len hg
  rw [ht] at hl
  obtain ⟨x, rfl⟩ := List.length_eq_one_iff.1 hl
  obtain ⟨h1, es, he, _, h2, h3⟩ := h.at_ hg 0 (by simp) (by rw [ht]; simp)
  have e0 : (turnsOf kT (img ses2 [(kG, key)]).ses)[0]'(by rw [ht]; simp) = kG := by simp [ht]
  rw [e0] at he h2 h3 h1
  have hes : es = [(kA, 1), (kB, 2)] := gathered_unique he gath2
  subst hes
  obtain ⟨a, b, c⟩ := x
  simp only [List.getElem_cons_zero] at h1 h2 h3
  rw [h1, h2, h3]
  rfl

theorem sharesA (l : List (ByteArray × ByteArray × Int)) (h : IsShares (img ses2 [(kG, kA)]) kT 2 l) : l = [(kG, kB, 2)] := by
  rw [shares2 kA l h]
  kernel_rfl
theorem sharesB (l : List (ByteArray × ByteArray × Int)) (h : IsShares (img ses2 [(kG, kB)]) kT 2 l) : l = [(kG, kA, 1)] := by
  rw [shares2 kB l h]
  kernel_rfl

/-! ### Faults -/
theorem fa1 : sesFaults ses1 1 = [] := by kernel_rfl
theorem fa2 : sesFaults ses2 2 = [] := by kernel_rfl
theorem fa3 : sesFaults ses3 2 = [(1, 210)] := by kernel_rfl

theorem fine_subs1 : SubsFine subs1 := by
  refine ⟨fun i h => ?_, fun i h => ?_⟩
  · have h3 : i < 3 := h
    match i, h3 with
    | 0, _ => exact ⟨(show kAPlus.size ≤ 1000000 by decide), (show filterS kAPlus = 0 by kernel_rfl), (show (0 : Int) ≤ 1 by decide), (show (1 : Int) ≤ 2 by decide)⟩
    | 1, _ => exact ⟨(show kAB.size ≤ 1000000 by decide), (show filterS kAB = 0 by kernel_rfl), (show (0 : Int) ≤ 1 by decide), (show (1 : Int) ≤ 2 by decide)⟩
    | 2, _ => exact ⟨(show kAC.size ≤ 1000000 by decide), (show filterS kAC = 0 by kernel_rfl), (show (0 : Int) ≤ 2 by decide), (show (2 : Int) ≤ 2 by decide)⟩
  · have h3 : i < 2 := by have : i + 1 < 3 := h; omega
    match i, h3 with
    | 0, _ => exact (show compareS kAPlus kAB < 0 by rw [show compareS kAPlus kAB = -1 by kernel_rfl]; decide)
    | 1, _ => exact (show compareS kAB kAC < 0 by rw [show compareS kAB kAC = -1 by kernel_rfl]; decide)
theorem fine_g (q : Int) (h0 : 0 ≤ q) (h2 : q ≤ 2) : SubsFine [(kG, q)] := by
  refine ⟨fun i h => ?_, fun i h => by simp at h⟩
  have h1 : i < 1 := h
  match i, h1 with
  | 0, _ => exact ⟨(show kG.size ≤ 1000000 by decide), (show filterS kG = 0 by kernel_rfl), h0, h2⟩
theorem fine_nil : SubsFine [] := ⟨fun i h => by simp at h, fun i h => by simp at h⟩

theorem fine1 : ∀ s ∈ ses1, SesFine s := by
  intro s hs
  simp [ses1] at hs
  subst hs
  exact ⟨by kernel_rfl, by kernel_rfl, fine_subs1, by simp, by decide⟩
theorem fine2 : ∀ s ∈ ses2, SesFine s := by
  intro s hs
  simp [ses2] at hs
  rcases hs with rfl | rfl
  · exact ⟨by kernel_rfl, by kernel_rfl, fine_g 1 (by decide) (by decide), by simp, by decide⟩
  · exact ⟨by kernel_rfl, by kernel_rfl, fine_g 2 (by decide) (by decide), by simp, by decide⟩
theorem fine3 : ∀ s ∈ ses3, SesFine s := by
  intro s hs
  simp [ses3] at hs
  rcases hs with rfl | rfl
  · exact ⟨by kernel_rfl, by kernel_rfl, fine_subs1, by simp, by decide⟩
  · exact ⟨by kernel_rfl, by kernel_rfl, fine_nil, by simp, by decide⟩
end Go.Proofs.YtjeafniglnnkhaaGreatDoor

namespace Go.Proofs.YtjeafniglnnkhaaGreatDoor
open Go.RowKit

theorem rows_nil (w : World) (B size : Nat) (R : Nat → List Value → Prop) : IsRows w B size (.slice none 0 0) 0 R := ⟨none, 0, rfl, Nat.le_refl _, by decide, fun h => absurd h (by decide)⟩

theorem rows_map {w : World} {B size n : Nat} {v : Value} {R R' : Nat → List Value → Prop} (h : IsRows w B size v n R) (hR : ∀ i cs, R i cs → R' i cs) : IsRows w B size v n R' := by
  obtain ⟨A, c, hv, hc, hn, hA⟩ := h
  refine ⟨A, c, hv, hc, hn, fun h0 => ?_⟩
  obtain ⟨b, o, hA, hB, hcell⟩ := hA h0
  refine ⟨b, o, hA, hB, fun i hi => ?_⟩
  obtain ⟨cs, h1, h2⟩ := hcell i hi
  exact ⟨cs, hR i cs h1, h2⟩

theorem img_of {w : World} {B : Nat} {vs vr vg : Value} {l : List FSes} {gs : List (ByteArray × ByteArray)} (hs : IsRows w B 6 vs l.length (FSesCells w B l)) (hr : ∃ n, IsRows w B 4 vr n MsgCells) (hg : IsRows w B 2 vg gs.length (GrpCells gs))
    (hz : ∀ g ∈ gs, g.1.size ≤ big ∧ g.2.size ≤ big) (hc : ∀ s ∈ l, s.client.size ≤ big ∧ s.inbox.length ≤ big ∧ ∀ a ∈ s.subs, a.1.size ≤ big) : IsImg w B vs vr vg (img l gs) := by
  refine ⟨?_, hr, hg, hz⟩
  have hlen : (img l gs).ses.length = l.length := by simp [img, bare]
  rw [hlen]
  refine rows_map hs fun i cs h => ?_
  obtain ⟨h1, As, c, Ai, ci, rfl, r1, r2⟩ := h
  have hi : (img l gs).ses[i]'(by rw [hlen]; exact h1) = ⟨l[i].client, l[i].subs⟩ := by simp [img, bare]
  have hm := hc _ (List.getElem_mem h1)
  refine ⟨by rw [hlen]; exact h1, ?_, ?_, ?_⟩
  · refine ⟨.slice As l[i].subs.length c, .slice none 0 0, .slice none 0 0, 0, Ai, 0, 0, l[i].inbox.length, ci, ?_, ?_, rows_nil w B 6 FlightCells, rows_nil w B 4 MsgCells, hm.2.1⟩
    · rw [hi]
    · rw [hi]; exact r1
  · rw [hi]; exact hm.1
  · rw [hi]; exact hm.2.2

/-- A row of elements out of one block of cells. -/
theorem rows_of_block {w : World} {b n size B cap : Nat} {t : TypeId} {cs : Array Value} {R : Nat → List Value → Prop} (h : w.heap[b]? = some (.cells cs t (0, 0))) (hB : b < B) (hcap : n ≤ cap) (hn : n ≤ 1000)
    (hR : ∀ i, i < n → ∃ l, R i l ∧ ∀ (j : Nat) u, l[j]? = some u → cs[i * size + j]? = some u) : IsRows w B size (.slice (some ⟨b, 0, none⟩) n cap) n R := by
  refine ⟨_, _, rfl, hcap, by omega, fun _ => ⟨b, 0, rfl, hB, fun i hi => ?_⟩⟩
  obtain ⟨l, h1, h2⟩ := hR i hi
  exact ⟨l, h1, fun j u hu => by
    have := cell_of_row w b (i * size + j) _ t (0, 0) h
    rw [show 0 + i * size + j = i * size + j by omega]
    exact this.trans (h2 j u hu)⟩

theorem idx1 {R : Nat → Prop} (h0 : R 0) : ∀ i, i < 1 → R i := fun i hi => by
  have : i = 0 := by omega
  subst this
  exact h0
theorem idx2 {R : Nat → Prop} (h0 : R 0) (h1 : R 1) : ∀ i, i < 2 → R i := fun i hi => by
  rcases Nat.lt_or_ge i 1 with h | h
  · exact idx1 h0 i h
  · have : i = 1 := by omega
    subst this
    exact h1
theorem idx3 {R : Nat → Prop} (h0 : R 0) (h1 : R 1) (h2 : R 2) : ∀ i, i < 3 → R i := fun i hi => by
  rcases Nat.lt_or_ge i 2 with h | h
  · exact idx2 h0 h1 i h
  · have : i = 2 := by omega
    subst this
    exact h2

def cells1 : Array Value := #[.string kAPlus, .int .i64 1, .string kAB, .int .i64 1, .string kAC, .int .i64 2]
def sesCells (c : ByteArray) (A : Option Addr) (n k : Nat) (Ai : Option Addr) (ni ci : Nat) : List Value := [.string c, .slice A n k, .int .i64 0, .slice none 0 0, .slice none 0 0, .slice Ai ni ci]

theorem asks1 {w : World} {b B : Nat} (h : w.heap[b]? = some (.cells cells1 49 (0, 0))) (hB : b < B) : IsRows w B 2 (.slice (some ⟨b, 0, none⟩) 3 3) 3 (AskCells subs1) :=
  rows_of_block h hB (by decide) (by decide) (idx3 ⟨_, ⟨by decide, rfl⟩, fun j u hu => by match j, hu with | 0, hu => exact hu | 1, hu => exact hu⟩ ⟨_, ⟨by decide, rfl⟩, fun j u hu => by match j, hu with | 0, hu => exact hu | 1, hu => exact hu⟩ ⟨_, ⟨by decide, rfl⟩, fun j u hu => by match j, hu with | 0, hu => exact hu | 1, hu => exact hu⟩)
theorem askG {w : World} {b B : Nat} {q : Int} (h : w.heap[b]? = some (.cells #[.string kG, .int .i64 q] 49 (0, 0))) (hB : b < B) : IsRows w B 2 (.slice (some ⟨b, 0, none⟩) 1 1) 1 (AskCells [(kG, q)]) :=
  rows_of_block h hB (by decide) (by decide) (idx1 ⟨_, ⟨by simp, rfl⟩, fun j u hu => by match j, hu with | 0, hu => exact hu | 1, hu => exact hu⟩)

/-! ### a row of the call's own as rows -/
theorem rows_of_owns {α : Type} {enc : α → List Value} {k : Nat} (hk : ∀ x, (enc x).length = k) (hk0 : 0 < k) {w : World} {base : Nat} {e : TypeId} {v : Value} {l : List α} (h : w.ownsRow base e k v l.length (l.flatMap enc)) (hl : l.length ≤ 1000) :
    IsRows w w.heap.size k v l.length (EncCells enc l) := by
  have hcs := h
  rcases h.2 with ⟨rfl, h0⟩ | ⟨g, cap, cur, rfl, _, hgg, hn, hm, _, _⟩
  · exact ⟨none, 0, by rw [h0], by omega, by omega, fun h => by omega⟩
  · refine ⟨some ⟨g, 0, none⟩, cap, rfl, hn, by omega, fun _ => ⟨g, 0, rfl, (Array.getElem?_eq_some_iff.1 hgg).1, fun i hi => ⟨enc l[i], ⟨hi, rfl⟩, fun j u hu => ?_⟩⟩⟩
    have hj : j < k := by have := (List.getElem?_eq_some_iff.1 hu).1; rwa [hk] at this
    have hf := flat_get enc k hk hk0 l (i * k + j)
    have e1 : (i * k + j) / k = i := by rw [Nat.mul_comm, Nat.mul_add_div hk0, Nat.div_eq_of_lt hj, Nat.add_zero]
    have e2 : (i * k + j) % k = j := by rw [Nat.mul_comm, Nat.mul_add_mod, Nat.mod_eq_of_lt hj]
    rw [e1, e2, List.getElem?_eq_getElem hi] at hf
    simp only [Option.bind_some] at hf
    rw [hu] at hf
    have := hcs.cells (g := g) rfl _ u hf
    have hadd : (⟨g, 0, none⟩ : Addr).add (i * k + j) = ⟨g, 0 + (i * k + j), none⟩ := by unfold Addr.add; split <;> simp_all
    rw [hadd] at this
    rwa [show 0 + i * k + j = 0 + (i * k + j) by omega]

/-- The call answers a row of such elements, and lays memory alone. -/
def RowPost {α : Type} (enc : α → List Value) (k : Nat) (l : List α) (w : World) (e : Ending) (w' : World) : Prop := ∃ v, e = .returned v ∧ IsRows w' w'.heap.size k v l.length (EncCells enc l) ∧ Below w.heap.size w w'

/-- The call answers a row without an element, and lays memory alone. -/
def NonePost (w : World) (e : Ending) (w' : World) : Prop := ∃ A c, e = .returned (.slice A 0 c) ∧ Below w.heap.size w w'
theorem RowPost.none {α : Type} {enc : α → List Value} {k : Nat} {w w' : World} {e : Ending} (h : RowPost enc k [] w e w') : NonePost w e w' := by
  obtain ⟨v, he, hr, hb⟩ := h
  obtain ⟨A, c, rfl, _⟩ := hr
  exact ⟨A, c, he, hb⟩

/-! ### the first image -/
structure At1 (W : World) (b : Nat) : Prop where
  b0 : W.heap[b]? = some (.cells cells1 49 (0, 0))
  b1 : W.heap[b + 1]? = some (.cells #[.string kC, .slice (some ⟨b, 0, none⟩) 3 3, .int .i64 0, .slice none 0 0, .slice none 0 0, .slice none 0 0] 47 (0, 0))
  b2 : W.heap[b + 2]? = some (.cells #[.int .i64 0, .slice (some ⟨b + 1, 0, none⟩) 1 1, .slice none 0 0, .slice none 0 0] 26 (0, 0))
theorem At1.lt {W : World} {b : Nat} (h : At1 W b) : b + 2 < W.heap.size := (Array.getElem?_eq_some_iff.1 h.b2).1
theorem At1.below {W W' : World} {b B : Nat} (h : At1 W b) (hb : Below B W W') (hB : b + 2 < B) : At1 W' b := ⟨(hb.block b (by omega)).trans h.b0, (hb.block (b + 1) (by omega)).trans h.b1, (hb.block (b + 2) hB).trans h.b2⟩
theorem At1.next {W W' : World} {b : Nat} (h : At1 W b) (hb : Below W.heap.size W W') : At1 W' b := h.below hb h.lt

theorem At1.rows {W : World} {b : Nat} (h : At1 W b) : IsRows W (b + 2) 6 (.slice (some ⟨b + 1, 0, none⟩) 1 1) 1 (FSesCells W (b + 2) ses1) :=
  rows_of_block h.b1 (by omega) (by decide) (by decide) (idx1 ⟨_, ⟨by decide, some ⟨b, 0, none⟩, 3, none, 0, rfl, asks1 h.b0 (by omega), rows_nil _ _ _ _⟩, fun j u hu => by
    match j, hu with
    | 0, hu => exact hu
    | 1, hu => exact hu
    | 2, hu => exact hu
    | 3, hu => exact hu
    | 4, hu => exact hu
    | 5, hu => exact hu⟩)

theorem sizes1 : ∀ s ∈ ses1, s.client.size ≤ big ∧ s.inbox.length ≤ big ∧ ∀ a ∈ s.subs, a.1.size ≤ big := by
  intro s hs
  simp [ses1] at hs
  subst hs
  refine ⟨by decide, by decide, fun a ha => ?_⟩
  simp [subs1] at ha
  rcases ha with rfl | rfl | rfl <;> decide
theorem At1.img {W : World} {b : Nat} (h : At1 W b) : IsImg W (b + 2) (.slice (some ⟨b + 1, 0, none⟩) 1 1) (.slice none 0 0) (.slice none 0 0) (img ses1 []) :=
  img_of (l := ses1) (gs := []) h.rows ⟨0, rows_nil _ _ _ _⟩ (rows_nil _ _ _ _) (by simp) sizes1
theorem ok1 : ImgOk (img ses1 []) := by
  refine ⟨by decide, ?_, ?_, ?_⟩
  · intro S hS; simp [img, bare, ses1] at hS; subst hS; decide
  · intro S hS; simp [img, bare, ses1] at hS; subst hS; decide
  · intro S hS a ha
    simp [img, bare, ses1] at hS
    subst hS
    simp [subs1] at ha
    rcases ha with rfl | rfl | rfl <;> decide

abbrev im1 (b : Nat) : Value := .agg #[.int .i64 0, .slice (some ⟨b + 1, 0, none⟩) 1 1, .slice none 0 0, .slice none 0 0]
abbrev msg (t : ByteArray) (q : Int) (r : Bool) : Value := .agg #[.string t, .slice none 0 0, .int .i64 q, .bool r]

theorem c_spare1 {W : World} {b : Nat} (h : At1 W b) : Calls Tryz.prog 18 #[im1 b] W (RowPost encSp 3 [(kC, kAB, kAPlus)] W) := by
  refine (spare_all kWf 0 _ _ _ (img ses1 []) W (b + 2) h.img (by have := h.lt; omega) ok1 (fun S hS => ?_)).mono ?_
  · simp [img, bare, ses1] at hS
    subst hS
    exact withins1
  · rintro e w' ⟨v, he, hr, hb⟩
    rw [show spAll kWf (img ses1 []).ses = [(kC, kAB, kAPlus)] from sp1] at hr
    exact ⟨v, he, rows_of_owns (enc := encSp) (fun _ => rfl) (by decide) hr (by decide), hb⟩

theorem c_faults1 {W : World} {b : Nat} (h : At1 W b) : Calls Tryz.prog 19 #[im1 b] W (NonePost W) := by
  refine (faults_any 0 (some ⟨b + 1, 0, none⟩) 1 (.slice none 0 0) (.slice none 0 0) ses1 [] W (b + 2) h.rows (by have := h.lt; omega) (by decide) fine1 (.inl ⟨rfl, rfl, rfl⟩)).mono ?_
  rintro e w' ⟨v, he, hr, hb⟩
  rw [show sesFaults ses1 ses1.length ++ [] = [] from by rw [List.append_nil]; exact fa1] at hr
  exact RowPost.none ⟨v, he, rows_of_owns (enc := encFa) (fun _ => rfl) (by decide) hr (by decide), hb⟩

theorem c_who1 {W : World} {b : Nat} (h : At1 W b) (t : ByteArray) (q : Int) (rr : Bool) (es : List (ByteArray × Int)) (ht : t.size ≤ 1000000) (hg : goodB q = true) (hes : es.length ≤ 1000) (he : IsGathered (sesM (fun a => matchS a.1 t) (bare ses1) fun _ => none) es) :
    Calls Tryz.prog 20 #[im1 b, msg t q rr] W (RowPost encEn 2 (es.map (capE q)) W) := by
  refine (who_any 0 _ _ _ (img ses1 []) t none 0 0 q rr W (b + 2) h.img (by have := h.lt; omega) ok1 ht).mono ?_
  rintro e w' ⟨v, l, h1, _, h2, hr, hb⟩
  obtain ⟨es', h3, rfl⟩ := h2 hg
  rw [gathered_unique h3 he] at hr
  exact ⟨v, h1, rows_of_owns (enc := encEn) (fun _ => rfl) (by decide) hr (by simpa using hes), hb⟩

theorem c_could1 {W : World} {b : Nat} (h : At1 W b) : Calls Tryz.prog 22 #[im1 b, .string kHash] W (RowPost encEn 2 [(kC, 2)] W) := by
  refine (could_any 0 _ _ _ (img ses1 []) kHash (fun _ => true) W (b + 2) h.img (by have := h.lt; omega) ok1 (fun S hS a ha => ?_)).mono ?_
  · simp [img, bare, ses1] at hS
    subst hS
    simp [subs1] at ha
    rcases ha with rfl | rfl | rfl
    · exact meet_aplus
    · exact meet_ab
    · exact meet_ac
  · rintro e w' ⟨v, es, h1, h2, hr, hb⟩
    rw [gathered_unique h2 could1] at hr
    exact ⟨v, h1, rows_of_owns (enc := encEn) (fun _ => rfl) (by decide) hr (by decide), hb⟩
end Go.Proofs.YtjeafniglnnkhaaGreatDoor

namespace Go.Proofs.YtjeafniglnnkhaaGreatDoor
open Go.RowKit

structure At2 (W : World) (b : Nat) (key : ByteArray) : Prop where
  b0 : W.heap[b]? = some (.cells #[.string kG, .int .i64 1] 49 (0, 0))
  b1 : W.heap[b + 1]? = some (.cells #[.string kG, .int .i64 2] 49 (0, 0))
  b2 : W.heap[b + 2]? = some (.cells #[.string kA, .slice (some ⟨b, 0, none⟩) 1 1, .int .i64 0, .slice none 0 0, .slice none 0 0, .slice none 0 0, .string kB, .slice (some ⟨b + 1, 0, none⟩) 1 1, .int .i64 0, .slice none 0 0, .slice none 0 0, .slice none 0 0] 47 (0, 0))
  b3 : W.heap[b + 3]? = some (.cells #[.string kG, .string key] 51 (0, 0))
  b4 : W.heap[b + 4]? = some (.cells #[.int .i64 0, .slice (some ⟨b + 2, 0, none⟩) 2 2, .slice none 0 0, .slice (some ⟨b + 3, 0, none⟩) 1 1] 26 (0, 0))
theorem At2.lt {W : World} {b : Nat} {key : ByteArray} (h : At2 W b key) : b + 4 < W.heap.size := (Array.getElem?_eq_some_iff.1 h.b4).1
theorem At2.next {W W' : World} {b : Nat} {key : ByteArray} (h : At2 W b key) (hb : Below W.heap.size W W') : At2 W' b key :=
  have hl := h.lt
  ⟨(hb.block b (by omega)).trans h.b0, (hb.block (b + 1) (by omega)).trans h.b1, (hb.block (b + 2) (by omega)).trans h.b2, (hb.block (b + 3) (by omega)).trans h.b3, (hb.block (b + 4) hl).trans h.b4⟩
theorem At2.setKey {W : World} {b : Nat} {key : ByteArray} (h : At2 W b key) (key' : ByteArray) : At2 (W.setCell ⟨b + 3, 1, none⟩ (.string key')) b key' := by
  have far : ∀ j, j ≠ b + 3 → (W.setCell ⟨b + 3, 1, none⟩ (.string key')).heap[j]? = W.heap[j]? := fun j hj => by rw [Below.heap_setCell _ _ _ _ (fun e => hj (by rw [e]))]
  exact ⟨(far b (by omega)).trans h.b0, (far (b + 1) (by omega)).trans h.b1, (far (b + 2) (by omega)).trans h.b2, blk_setC h.b3 1 (.string key'), (far (b + 4) (by omega)).trans h.b4⟩

theorem At2.rows {W : World} {b : Nat} {key : ByteArray} (h : At2 W b key) : IsRows W (b + 4) 6 (.slice (some ⟨b + 2, 0, none⟩) 2 2) 2 (FSesCells W (b + 4) ses2) :=
  rows_of_block h.b2 (by omega) (by decide) (by decide) (idx2 ⟨_, ⟨by decide, some ⟨b, 0, none⟩, 1, none, 0, rfl, askG h.b0 (by omega), rows_nil _ _ _ _⟩, fun j u hu => by
    match j, hu with
    | 0, hu => exact hu
    | 1, hu => exact hu
    | 2, hu => exact hu
    | 3, hu => exact hu
    | 4, hu => exact hu
    | 5, hu => exact hu⟩ ⟨_, ⟨by decide, some ⟨b + 1, 0, none⟩, 1, none, 0, rfl, askG h.b1 (by omega), rows_nil _ _ _ _⟩, fun j u hu => by
    match j, hu with
    | 0, hu => exact hu
    | 1, hu => exact hu
    | 2, hu => exact hu
    | 3, hu => exact hu
    | 4, hu => exact hu
    | 5, hu => exact hu⟩)

theorem At2.grp {W : World} {b : Nat} {key : ByteArray} (h : At2 W b key) : IsRows W (b + 4) 2 (.slice (some ⟨b + 3, 0, none⟩) 1 1) 1 (GrpCells [(kG, key)]) :=
  rows_of_block h.b3 (by omega) (by decide) (by decide) (idx1 ⟨_, ⟨by simp, rfl⟩, fun j u hu => by match j, hu with | 0, hu => exact hu | 1, hu => exact hu⟩)

theorem sizes2 : ∀ s ∈ ses2, s.client.size ≤ big ∧ s.inbox.length ≤ big ∧ ∀ a ∈ s.subs, a.1.size ≤ big := by
  intro s hs
  simp [ses2] at hs
  rcases hs with rfl | rfl
  · refine ⟨by decide, by decide, fun a ha => ?_⟩
    simp at ha
    subst ha
    decide
  · refine ⟨by decide, by decide, fun a ha => ?_⟩
    simp at ha
    subst ha
    decide
theorem At2.img {W : World} {b : Nat} {key : ByteArray} (h : At2 W b key) (hk : key.size ≤ big) : IsImg W (b + 4) (.slice (some ⟨b + 2, 0, none⟩) 2 2) (.slice none 0 0) (.slice (some ⟨b + 3, 0, none⟩) 1 1) (img ses2 [(kG, key)]) :=
  img_of (l := ses2) (gs := [(kG, key)]) h.rows ⟨0, rows_nil _ _ _ _⟩ h.grp (fun g hg => by simp at hg; subst hg; exact ⟨by show kG.size ≤ big; decide, hk⟩) sizes2
theorem ok2 (gs : List (ByteArray × ByteArray)) : ImgOk (img ses2 gs) := by
  refine ⟨by show (bare ses2).length ≤ 30000; decide, ?_, ?_, ?_⟩
  · intro S hS; simp [img, bare, ses2] at hS; rcases hS with rfl | rfl <;> decide
  · intro S hS; simp [img, bare, ses2] at hS; rcases hS with rfl | rfl <;> decide
  · intro S hS a ha
    simp [img, bare, ses2] at hS
    rcases hS with rfl | rfl <;> (simp at ha; subst ha; decide)

abbrev im2 (b : Nat) : Value := .agg #[.int .i64 0, .slice (some ⟨b + 2, 0, none⟩) 2 2, .slice none 0 0, .slice (some ⟨b + 3, 0, none⟩) 1 1]

theorem c_shares2 {W : World} {b : Nat} {key : ByteArray} (h : At2 W b key) (hk : key.size ≤ big) (x : ByteArray × ByteArray × Int) (hx : ∀ l, IsShares (img ses2 [(kG, key)]) kT 2 l → l = [x]) :
    Calls Tryz.prog 7 #[im2 b, msg kT 2 false] W (RowPost encSh 3 [x] W) := by
  refine (shares_any 0 _ _ _ (img ses2 [(kG, key)]) kT none 0 0 2 false W (b + 4) (h.img hk) (by have := h.lt; omega) (ok2 _) (by decide)).mono ?_
  rintro e w' ⟨v, l, he, hl, hr, hb⟩
  rw [hx l hl] at hr
  exact ⟨v, he, rows_of_owns (enc := encSh) (fun _ => rfl) (by decide) hr (by simp), hb⟩

theorem c_shares2o {W : World} {b : Nat} {key : ByteArray} (h : At2 W b key) (hk : key.size ≤ big) (x : ByteArray × ByteArray × Int) (hx : ∀ l, IsShares (img ses2 [(kG, key)]) kT 2 l → l = [x]) :
    Calls Tryz.prog 7 #[im2 b, msg kT 2 false] W fun e w' => ∃ v, e = .returned v ∧ w'.ownsRow W.heap.size 38 3 v 1 ([x].flatMap encSh) ∧ Below W.heap.size W w' := by
  refine (shares_any 0 _ _ _ (img ses2 [(kG, key)]) kT none 0 0 2 false W (b + 4) (h.img hk) (by have := h.lt; omega) (ok2 _) (by decide)).mono ?_
  rintro e w' ⟨v, l, he, hl, hr, hb⟩
  rw [hx l hl] at hr
  exact ⟨v, he, hr, hb⟩

theorem c_spare2 {W : World} {b : Nat} {key : ByteArray} (h : At2 W b key) (hk : key.size ≤ big) : Calls Tryz.prog 18 #[im2 b] W (NonePost W) := by
  refine (spare_all kWf 0 _ _ _ (img ses2 [(kG, key)]) W (b + 4) (h.img hk) (by have := h.lt; omega) (ok2 _) (fun S hS => ?_)).mono ?_
  · simp [img, bare, ses2] at hS
    rcases hS with rfl | rfl
    · exact withins_one kG 1
    · exact withins_one kG 2
  · rintro e w' ⟨v, he, hr, hb⟩
    rw [show spAll kWf (img ses2 [(kG, key)]).ses = [] from sp2] at hr
    exact RowPost.none ⟨v, he, rows_of_owns (enc := encSp) (fun _ => rfl) (by decide) hr (by decide), hb⟩

theorem c_who2 {W : World} {b : Nat} {key : ByteArray} (h : At2 W b key) (hk : key.size ≤ big) : Calls Tryz.prog 20 #[im2 b, msg kT 0 false] W (NonePost W) := by
  refine (who_any 0 _ _ _ (img ses2 [(kG, key)]) kT none 0 0 0 false W (b + 4) (h.img hk) (by have := h.lt; omega) (ok2 _) (by decide)).mono ?_
  rintro e w' ⟨v, l, h1, _, h2, hr, hb⟩
  obtain ⟨es', h3, rfl⟩ := h2 (by kernel_rfl)
  rw [gathered_unique h3 whoT] at hr
  exact RowPost.none ⟨v, h1, rows_of_owns (enc := encEn) (fun _ => rfl) (by decide) hr (by decide), hb⟩

theorem c_faults2 {W : World} {b : Nat} (h : At2 W b kB) : Calls Tryz.prog 19 #[im2 b] W (NonePost W) := by
  have c2 : ∀ (k : Nat) u, (#[Value.string kA, .slice (some ⟨b, 0, none⟩) 1 1, .int .i64 0, .slice none 0 0, .slice none 0 0, .slice none 0 0, .string kB, .slice (some ⟨b + 1, 0, none⟩) 1 1, .int .i64 0, .slice none 0 0, .slice none 0 0, .slice none 0 0] : Array Value)[k]? = some u → W.cell? ⟨b + 2, k, none⟩ = some u :=
    fun k u hu => (cell_of_row W (b + 2) k _ 47 (0, 0) h.b2).trans hu
  have hfh : FirstHas W (b + 2) 0 kG := ⟨kA, 1, 0, b, 0, 1, 1, none, none, none, 0, 0, 0, 0, 0, 0, by decide, c2 0 _ rfl, c2 1 _ rfl, c2 2 _ rfl, c2 3 _ rfl, c2 4 _ rfl, c2 5 _ rfl, (cell_of_row W b 0 _ 49 (0, 0) h.b0).trans rfl, (cell_of_row W b 1 _ 49 (0, 0) h.b0).trans rfl⟩
  have hgf : GroupFine W (b + 4) (some ⟨b + 2, 0, none⟩) (.slice (some ⟨b + 3, 0, none⟩) 1 1) ses2 := ⟨b + 2, 0, b + 3, 0, 1, kG, kB, rfl, by omega, (cell_of_row W (b + 3) 0 _ 51 (0, 0) h.b3).trans rfl, (cell_of_row W (b + 3) 1 _ 51 (0, 0) h.b3).trans rfl, by kernel_rfl, by kernel_rfl, by decide, by kernel_rfl, rfl, by decide, hfh⟩
  refine (faults_any 0 (some ⟨b + 2, 0, none⟩) 2 (.slice none 0 0) (.slice (some ⟨b + 3, 0, none⟩) 1 1) ses2 [] W (b + 4) h.rows (by have := h.lt; omega) (by decide) fine2 (.inr (.inl ⟨rfl, hgf, rfl⟩))).mono ?_
  rintro e w' ⟨v, he, hr, hb⟩
  rw [show sesFaults ses2 ses2.length ++ [] = [] from by rw [List.append_nil]; exact fa2] at hr
  exact RowPost.none ⟨v, he, rows_of_owns (enc := encFa) (fun _ => rfl) (by decide) hr (by decide), hb⟩

/-! ### the third image -/
def row3 (b i : Nat) : List Value := [.string kC, .slice (some ⟨b, 0, none⟩) 3 3, .int .i64 0, .slice none 0 0, .slice none 0 0, .slice none 0 0, .string kB, .slice none 0 0, .int .i64 0, .slice none 0 0, .slice none 0 0, .slice (some ⟨i, 0, none⟩) 2 2]

/-- Block b: the first client's filters; i: the second one's numbers; g: the sessions; m: the retained message. -/
structure At3 (W : World) (b i g cap m : Nat) : Prop where
  b0 : W.heap[b]? = some (.cells cells1 49 (0, 0))
  bi : W.heap[i]? = some (.cells #[.int .i64 5, .int .i64 5] 3 (0, 0))
  bg : ∀ (k : Nat) u, (row3 b i)[k]? = some u → W.cell? ⟨g, k, none⟩ = some u
  hc : 2 ≤ cap
  bm : W.heap[m]? = some (.cells #[.string kA, .slice none 0 0, .int .i64 0, .bool true] 29 (0, 0))

theorem At3.lt {W : World} {b i g cap m : Nat} (h : At3 W b i g cap m) : b < W.heap.size ∧ i < W.heap.size ∧ g < W.heap.size ∧ m < W.heap.size :=
  ⟨(Array.getElem?_eq_some_iff.1 h.b0).1, (Array.getElem?_eq_some_iff.1 h.bi).1, World.block_lt_of_cell? W ⟨g, 0, none⟩ (h.bg 0 _ rfl), (Array.getElem?_eq_some_iff.1 h.bm).1⟩
theorem At3.next {W W' : World} {b i g cap m : Nat} (h : At3 W b i g cap m) (hb : Below W.heap.size W W') : At3 W' b i g cap m :=
  have hl := h.lt
  ⟨(hb.block b hl.1).trans h.b0, (hb.block i hl.2.1).trans h.bi, fun k u hu => (hb.cell (p := ⟨g, k, none⟩) hl.2.2.1).trans (h.bg k u hu), h.hc, (hb.block m hl.2.2.2).trans h.bm⟩

theorem ints5 {w : World} {b B : Nat} (h : w.heap[b]? = some (.cells #[.int .i64 5, .int .i64 5] 3 (0, 0))) (hB : b < B) : IsRows w B 1 (.slice (some ⟨b, 0, none⟩) 2 2) 2 (IntCells [5, 5]) :=
  rows_of_block h hB (by decide) (by decide) (idx2 ⟨_, ⟨by decide, rfl⟩, fun j u hu => by match j, hu with | 0, hu => exact hu⟩ ⟨_, ⟨by decide, rfl⟩, fun j u hu => by match j, hu with | 0, hu => exact hu⟩)

theorem At3.rows {W : World} {b i g cap m : Nat} (h : At3 W b i g cap m) : IsRows W W.heap.size 6 (.slice (some ⟨g, 0, none⟩) 2 cap) 2 (FSesCells W W.heap.size ses3) := by
  have hl := h.lt
  refine ⟨_, _, rfl, h.hc, by decide, fun _ => ⟨g, 0, rfl, hl.2.2.1, idx2 ⟨_, ⟨by decide, some ⟨b, 0, none⟩, 3, none, 0, rfl, asks1 h.b0 hl.1, rows_nil _ _ _ _⟩, fun j u hu => ?_⟩ ⟨_, ⟨by decide, none, 0, some ⟨i, 0, none⟩, 2, rfl, rows_nil _ _ _ _, ints5 h.bi hl.2.1⟩, fun j u hu => ?_⟩⟩⟩
  · match j, hu with
    | 0, hu => exact h.bg 0 _ hu
    | 1, hu => exact h.bg 1 _ hu
    | 2, hu => exact h.bg 2 _ hu
    | 3, hu => exact h.bg 3 _ hu
    | 4, hu => exact h.bg 4 _ hu
    | 5, hu => exact h.bg 5 _ hu
  · match j, hu with
    | 0, hu => exact h.bg 6 _ hu
    | 1, hu => exact h.bg 7 _ hu
    | 2, hu => exact h.bg 8 _ hu
    | 3, hu => exact h.bg 9 _ hu
    | 4, hu => exact h.bg 10 _ hu
    | 5, hu => exact h.bg 11 _ hu

abbrev im3 (g cap m : Nat) : Value := .agg #[.int .i64 0, .slice (some ⟨g, 0, none⟩) 2 cap, .slice (some ⟨m, 0, none⟩) 1 1, .slice none 0 0]

theorem c_faults3 {W : World} {b i g cap m : Nat} (h : At3 W b i g cap m) : Calls Tryz.prog 19 #[im3 g cap m] W (RowPost encFa 2 [((1 : Int), (210 : Int)), (2, 213)] W) := by
  have hl := h.lt
  have cm : ∀ (k : Nat) u, (#[Value.string kA, .slice none 0 0, .int .i64 0, .bool true] : Array Value)[k]? = some u → W.cell? ⟨m, k, none⟩ = some u := fun k u hu => (cell_of_row W m k _ 29 (0, 0) h.bm).trans hu
  have hmb : MsgBad W W.heap.size (.slice (some ⟨m, 0, none⟩) 1 1) := ⟨m, 0, 1, kA, rfl, hl.2.2.2, cm 0 _ rfl, cm 1 _ rfl, cm 2 _ rfl, cm 3 _ rfl, by decide, by kernel_rfl⟩
  refine (faults_any 0 (some ⟨g, 0, none⟩) cap (.slice (some ⟨m, 0, none⟩) 1 1) (.slice none 0 0) ses3 [((2 : Int), (213 : Int))] W W.heap.size h.rows (Nat.le_refl _) (by decide) fine3 (.inr (.inr ⟨hmb, rfl, rfl⟩))).mono ?_
  rintro e w' ⟨v, he, hr, hb⟩
  rw [show sesFaults ses3 ses3.length ++ [((2 : Int), (213 : Int))] = [((1 : Int), (210 : Int)), (2, 213)] from by rw [show sesFaults ses3 ses3.length = [(1, 210)] from fa3]; rfl] at hr
  exact ⟨v, he, rows_of_owns (enc := encFa) (fun _ => rfl) (by decide) hr (by decide), hb⟩

theorem c_kept3 {W : World} {b i g cap m : Nat} (h : At3 W b i g cap m) : Calls Tryz.prog 25 #[im3 g cap m, .agg #[.string kPlus, .int .i64 0]] W fun e w' => (∃ A c, e = .returned (.slice A 1 c)) ∧ Below W.heap.size W w' := by
  have cm : ∀ (k : Nat) u, (#[Value.string kA, .slice none 0 0, .int .i64 0, .bool true] : Array Value)[k]? = some u → W.cell? ⟨m, k, none⟩ = some u := fun k u hu => (cell_of_row W m k _ 29 (0, 0) h.bm).trans hu
  exact kept_one 0 _ _ m 0 1 kA kPlus W (cm 0 _ rfl) (cm 1 _ rfl) (cm 2 _ rfl) (cm 3 _ rfl) (by decide) (by decide) (by kernel_rfl)
end Go.Proofs.YtjeafniglnnkhaaGreatDoor
