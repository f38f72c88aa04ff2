/- Plain words: what audit.gathered tells. -/
import Derived.Test.YtjeafniglnnkhaaGreatDoorHW3
import Derived.Test.YtjeafniglnnkhaaGreatDoorHD2
namespace Go.Proofs.YtjeafniglnnkhaaGreatDoor
open Go.RowKit Go.Sort

abbrev KeyMap := List UInt8 → Option Int

def stepM (p : ByteArray × Int → Bool) (c : List UInt8) (m : KeyMap) (a : ByteArray × Int) : KeyMap :=
  if goodB a.2 && p a && (match m c with | none => true | some o => decide (o < a.2)) then fun y => if y = c then some a.2 else m y else m
def subsM (p : ByteArray × Int → Bool) (c : List UInt8) (l : List (ByteArray × Int)) (m : KeyMap) : KeyMap := l.foldl (stepM p c) m
def sesM (p : ByteArray × Int → Bool) (l : List Ses) (m : KeyMap) : KeyMap := l.foldl (fun m S => subsM p S.client.data.toList S.subs m) m

def encE (a : ByteArray × Int) : List Value := [.string a.1, .int .i64 a.2]
theorem encE_len (a : ByteArray × Int) : (encE a).length = 2 := rfl
theorem encE_one (a : ByteArray × Int) : ∀ v ∈ encE a, v.oneCell' = true := fun v hv => by simp [encE] at hv; rcases hv with rfl | rfl <;> rfl
theorem flatE_one (l : List (ByteArray × Int)) : ∀ v ∈ l.flatMap encE, v.oneCell' = true := fun v hv => by
  obtain ⟨a, _, h⟩ := List.mem_flatMap.1 hv
  exact encE_one a v h

/-- One entry for each key of m, in the order of the keys. -/
structure IsGathered (m : KeyMap) (es : List (ByteArray × Int)) : Prop where
  order : es.Pairwise fun a b => cmpS a.1 b.1 = -1
  mem : ∀ k q, (k, q) ∈ es ↔ m k.data.toList = some q

theorem subsM_take (p : ByteArray × Int → Bool) (c : List UInt8) (l : List (ByteArray × Int)) (m : KeyMap) (j : Nat) (h : j < l.length) : subsM p c (l.take (j + 1)) m = stepM p c (subsM p c (l.take j) m) l[j] := by
  unfold subsM
  rw [List.take_succ_eq_append_getElem h, List.foldl_append]
  rfl
theorem sesM_take (p : ByteArray × Int → Bool) (l : List Ses) (m : KeyMap) (k : Nat) (h : k < l.length) : sesM p (l.take (k + 1)) m = subsM p l[k].client.data.toList l[k].subs (sesM p (l.take k) m) := by
  unfold sesM
  rw [List.take_succ_eq_append_getElem h, List.foldl_append]
  rfl

theorem step_bad {p : ByteArray × Int → Bool} {c : List UInt8} {m : KeyMap} {a : ByteArray × Int} (h : goodB a.2 = false) : stepM p c m a = m := by simp [stepM, h]
theorem step_no {p : ByteArray × Int → Bool} {c : List UInt8} {m : KeyMap} {a : ByteArray × Int} (h : p a = false) : stepM p c m a = m := by simp [stepM, h]
theorem step_new {p : ByteArray × Int → Bool} {c : List UInt8} {m : KeyMap} {a : ByteArray × Int} (h : goodB a.2 = true) (h2 : p a = true) (h3 : m c = none) : stepM p c m a = fun y => if y = c then some a.2 else m y := by simp [stepM, h, h2, h3]
theorem step_more {p : ByteArray × Int → Bool} {c : List UInt8} {m : KeyMap} {a : ByteArray × Int} {o : Int} (h : goodB a.2 = true) (h2 : p a = true) (h3 : m c = some o) (h4 : o < a.2) : stepM p c m a = fun y => if y = c then some a.2 else m y := by simp [stepM, h, h2, h3, h4]
theorem step_less {p : ByteArray × Int → Bool} {c : List UInt8} {m : KeyMap} {a : ByteArray × Int} {o : Int} (h3 : m c = some o) (h4 : ¬ o < a.2) : stepM p c m a = m := by simp [stepM, h3, h4]

/-- What was met of a map's entries while it is ranged over. -/
structure Met (m : KeyMap) (left : Lit → Bool) (ss : List (ByteArray × Int)) : Prop where
  nodup : (ss.map (·.1)).Nodup
  mem : ∀ k q, (k, q) ∈ ss ↔ m k.data.toList = some q ∧ left (.string k.data.toList) = false

theorem bytes_inj {a b : ByteArray} (h : a.data.toList = b.data.toList) : a = b := by
  cases a; cases b
  simp at h
  rw [h]

theorem Met.start {D : DataW Unit} {m : KeyMap} (h : MapIs D m) : Met m (Maps.has D) [] := ⟨by simp, fun k q => by
  rw [(h.2 k.data.toList).1]
  constructor
  · intro h; simp at h
  · rintro ⟨h1, h2⟩; rw [h1] at h2; simp at h2⟩

theorem Met.step {m : KeyMap} {left : Lit → Bool} {ss : List (ByteArray × Int)} (h : Met m left ss) {k : ByteArray} {q : Int} (hl : left (.string k.data.toList) = true) (hm : m k.data.toList = some q) :
    Met m (fun z => left z && !z.sameKey (.string k.data.toList)) (ss ++ [(k, q)]) := by
  have hnew : ∀ q', (k, q') ∉ ss := fun q' hx => by have := ((h.mem k q').1 hx).2; rw [hl] at this; cases this
  refine ⟨?_, fun y c => ?_⟩
  · rw [List.map_append, List.nodup_append]
    refine ⟨h.nodup, by simp, fun a ha b hb => ?_⟩
    simp at hb
    subst hb
    intro e
    subst e
    obtain ⟨x, hx, hk⟩ := List.mem_map.1 ha
    exact hnew x.2 (by rw [← hk]; exact hx)
  · by_cases hy : y = k
    · subst hy
      simp [hnew, Lit.sameKey, hm, eq_comm]
    · have hne : y.data.toList ≠ k.data.toList := fun e => hy (bytes_inj e)
      have hne2 : y.data ≠ k.data := fun e => hne (by rw [e])
      simp [h.mem y c, hy, Lit.sameKey, hne2]

theorem Met.sorted {m : KeyMap} {left : Lit → Bool} {ss es : List (ByteArray × Int)} (h : Met m left ss) (hl : ∀ x, left x = false) (hp : es.Perm ss) (ho : es.Pairwise fun a b => ¬ cmpS b.1 a.1 < 0) : IsGathered m es := by
  refine ⟨?_, fun k q => by rw [hp.mem_iff, h.mem, hl]; simp⟩
  have hnd : (es.map (·.1)).Nodup := (hp.map _).nodup_iff.2 h.nodup
  have hnd2 := List.pairwise_map.1 hnd
  refine (ho.and hnd2).imp ?_
  rintro a b ⟨h1, h2⟩
  have hc := cmpS_cmp
  rcases hc.vals a.1 b.1 with h3 | h3 | h3
  · exact h3
  · exact absurd ((hc.eq_ _ _).1 h3) h2
  · have := hc.neg a.1 b.1
    omega
end Go.Proofs.YtjeafniglnnkhaaGreatDoor
