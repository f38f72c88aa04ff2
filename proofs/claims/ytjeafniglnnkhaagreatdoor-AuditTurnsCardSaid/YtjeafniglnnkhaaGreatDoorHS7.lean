/- Plain law: turns go round among those that have a shared filter. -/
import Derived.Test.YtjeafniglnnkhaaGreatDoorHS6
import Derived.Test.YtjeafniglnnkhaaGreatDoorHB6
namespace Go.Proofs.YtjeafniglnnkhaaGreatDoor
open Go

theorem laterB_iff (e k : ByteArray) : laterB e k = true ↔ cmpS k e = -1 := by
  have hn := cmpS_cmp.neg e k
  have key : laterB e k = true ↔ cmpS e k = 1 := by
    unfold laterB cmpS
    cases h1 : Op.bytesLess e.toList k.toList <;> cases h2 : (e.toList == k.toList) <;> simp
  rw [key]
  omega

/-- Whose turn it is behind a key. -/
def nextS (es : List (ByteArray × Int)) (key : ByteArray) : ByteArray := ((es.find? fun e => laterB e.1 key).getD (es.headD default)).1

def metS (es : List (ByteArray × Int)) (key : ByteArray) : Nat → ByteArray
  | 0 => key
  | k + 1 => nextS es (metS es key k)

theorem next_at {es : List (ByteArray × Int)} (ho : es.Pairwise fun a b => cmpS a.1 b.1 = -1) {p : Nat} (hp : p < es.length) : nextS es es[p].1 = (es[(p + 1) % es.length]'(Nat.mod_lt _ (by omega))).1 := by
  have hc := cmpS_cmp
  have hpw := List.pairwise_iff_getElem.1 ho
  have hle : ∀ j (hj : j < es.length), j ≤ p → laterB es[j].1 es[p].1 = false := fun j hj hjp => by
    cases hb : laterB es[j].1 es[p].1
    · rfl
    · exfalso
      have h1 := (laterB_iff _ _).1 hb
      rcases Nat.lt_or_ge j p with h | h
      · have h2 := hpw j p hj hp h
        have := hc.neg es[j].1 es[p].1
        omega
      · obtain rfl : j = p := by omega
        have := (hc.eq_ es[j].1 es[j].1).2 rfl
        omega
  unfold nextS
  by_cases h : p + 1 < es.length
  · have hf : es.find? (fun e => laterB e.1 es[p].1) = some es[p + 1] := by
      rw [List.find?_eq_some_iff_getElem]
      refine ⟨(laterB_iff _ _).2 (hpw p (p + 1) hp h (by omega)), p + 1, h, rfl, fun j hj => ?_⟩
      rw [hle j (by omega) (by omega)]
      rfl
    rw [hf]
    simp [Nat.mod_eq_of_lt h]
  · have hf : es.find? (fun e => laterB e.1 es[p].1) = none := by
      rw [List.find?_eq_none]
      intro e he
      obtain ⟨j, hj, rfl⟩ := List.getElem_of_mem he
      rw [hle j hj (by omega)]
      simp
    have hm : (p + 1) % es.length = 0 := by
      have : p + 1 = es.length := by omega
      rw [this]; exact Nat.mod_self _
    rw [hf]
    obtain ⟨x, er, rfl⟩ : ∃ x er, es = x :: er := List.exists_cons_of_ne_nil (by intro h; subst h; simp at hp)
    simp only [List.length_cons] at hm
    simp [hm]

theorem met_at {es : List (ByteArray × Int)} (ho : es.Pairwise fun a b => cmpS a.1 b.1 = -1) {p : Nat} (hp : p < es.length) : ∀ k, metS es es[p].1 k = (es[(p + k) % es.length]'(Nat.mod_lt _ (by omega))).1
  | 0 => by simp [metS, Nat.mod_eq_of_lt hp]
  | k + 1 => by
    rw [metS, met_at ho hp k, next_at ho (Nat.mod_lt _ (by omega))]
    congr 2
    rw [Nat.add_mod]
    simp
    rw [Nat.add_assoc]

/-- The turn comes back just behind the last one. -/
theorem turns_round {es : List (ByteArray × Int)} (ho : es.Pairwise fun a b => cmpS a.1 b.1 = -1) {key : ByteArray} (hk : key ∈ es.map (·.1)) {k : Nat} (hkn : k < es.length) : (metS es key (k + 1)).toList = key.toList ↔ k = es.length - 1 := by
  obtain ⟨x, hx, rfl⟩ := List.mem_map.1 hk
  obtain ⟨p, hp, rfl⟩ := List.getElem_of_mem hx
  rw [met_at ho hp (k + 1)]
  have hpw := List.pairwise_iff_getElem.1 ho
  have hc := cmpS_cmp
  have inj : ∀ i j (hi : i < es.length) (hj : j < es.length), es[i].1 = es[j].1 → i = j := fun i j hi hj h => by
    rcases Nat.lt_trichotomy i j with h1 | h1 | h1
    · have h2 := hpw i j hi hj h1
      rw [(hc.eq_ _ _).2 h] at h2
      omega
    · exact h1
    · have h2 := hpw j i hj hi h1
      rw [(hc.eq_ _ _).2 h.symm] at h2
      omega
  constructor
  · intro h
    have h2 := inj _ _ (Nat.mod_lt _ (by omega)) hp (toList_inj h)
    by_cases h3 : p + (k + 1) < es.length
    · rw [Nat.mod_eq_of_lt h3] at h2; omega
    · rw [Nat.mod_eq_sub_mod (by omega), Nat.mod_eq_of_lt (by omega)] at h2
      omega
  · intro h
    have : p + (k + 1) = p + es.length := by omega
    simp [this, Nat.mod_eq_of_lt hp]

theorem met_mem {es : List (ByteArray × Int)} (ho : es.Pairwise fun a b => cmpS a.1 b.1 = -1) {key : ByteArray} (hk : key ∈ es.map (·.1)) (k : Nat) : metS es key k ∈ es.map (·.1) := by
  obtain ⟨x, hx, rfl⟩ := List.mem_map.1 hk
  obtain ⟨p, hp, rfl⟩ := List.getElem_of_mem hx
  rw [met_at ho hp k]
  exact List.mem_map.2 ⟨_, List.getElem_mem _, rfl⟩

/-! ### how many have a filter -/
def hasF (f : ByteArray) (S : Ses) : Bool := S.subs.any (onF f)

theorem gathered_count {I : Img} {f : ByteArray} {es : List (ByteArray × Int)} (hg : IsGathered (sesM (onF f) I.ses fun _ => none) es) (hp : PlainTo I I.ses.length) : es.length = (I.ses.filter (hasF f)).length := by
  have hc := cmpS_cmp
  have hnd : (es.map (·.1)).Nodup := by
    rw [List.Nodup, List.pairwise_map]
    refine hg.order.imp fun {a b} h e => ?_
    rw [(hc.eq_ _ _).2 e] at h
    omega
  have hdist : (I.ses.map (·.client)).Nodup := by
    rw [List.Nodup, List.pairwise_iff_getElem]
    intro i j hi hj hij e
    simp at hi hj
    simp only [List.getElem_map] at e
    exact hp.1 j i hj hi hj hij (by rw [e])
  have hnd2 : ((I.ses.filter (hasF f)).map (·.client)).Nodup := hdist.sublist (List.filter_sublist.map _)
  have hgood : ∀ S ∈ I.ses, ∀ a ∈ S.subs, goodB a.2 = true := fun S hS a ha => by
    obtain ⟨i, hi, rfl⟩ := List.getElem_of_mem hS
    have := hp.2 i hi hi a ha
    simp [goodB, this]
  have hperm : (es.map (·.1)).Perm ((I.ses.filter (hasF f)).map (·.client)) := by
    rw [List.perm_ext_iff_of_nodup hnd hnd2]
    intro x
    have key : x ∈ es.map (·.1) ↔ (sesM (onF f) I.ses (fun _ => none) x.data.toList).isSome = true := by
      rw [List.mem_map]
      constructor
      · rintro ⟨⟨a, q⟩, ha, rfl⟩
        rw [(hg.mem a q).1 ha]
        rfl
      · intro h
        obtain ⟨q, hq⟩ := Option.isSome_iff_exists.1 h
        exact ⟨(x, q), (hg.mem x q).2 hq, rfl⟩
    rw [key, sesM_isSome, List.mem_map]
    constructor
    · rintro (h | ⟨S, hS, hx, a, ha, _, hf⟩)
      · cases h
      · refine ⟨S, List.mem_filter.2 ⟨hS, List.any_eq_true.2 ⟨a, ha, hf⟩⟩, ?_⟩
        exact bytes_inj hx
    · rintro ⟨S, hS, rfl⟩
      obtain ⟨h1, h2⟩ := List.mem_filter.1 hS
      obtain ⟨a, ha, hf⟩ := List.any_eq_true.1 h2
      exact .inr ⟨S, h1, rfl, a, ha, hgood S h1 a ha, hf⟩
  have := hperm.length_eq
  simpa using this

/-- Two lists of entries for one function from keys are one. -/
theorem gathered_unique {m : KeyMap} {es es' : List (ByteArray × Int)} (h : IsGathered m es) (h' : IsGathered m es') : es = es' := by
  have hc := cmpS_cmp
  have nd : ∀ {l : List (ByteArray × Int)}, IsGathered m l → l.Nodup := fun {l} hl => hl.order.imp fun {a b} h e => by
    subst e
    rw [(hc.eq_ _ _).2 rfl] at h
    omega
  have hp : es.Perm es' := (List.perm_ext_iff_of_nodup (nd h) (nd h')).2 fun a => by
    obtain ⟨k, q⟩ := a
    rw [h.mem, h'.mem]
  exact hp.eq_of_pairwise (le := fun a b => cmpS a.1 b.1 = -1) (fun a b _ _ h1 h2 => by
    have := hc.neg a.1 b.1
    omega) h.order h'.order

theorem pick_mem {gs : List (ByteArray × ByteArray)} {f : ByteArray} {es : List (ByteArray × Int)} (hne : es ≠ []) : pickS gs f es ∈ es := by
  obtain ⟨x, er, rfl⟩ := List.exists_cons_of_ne_nil hne
  unfold pickS
  split
  · rename_i g _
    cases hf : (x :: er).find? (fun e => laterB e.1 g.2) with
    | none => simp
    | some e => simp only [Option.getD_some]; exact List.mem_of_find?_eq_some hf
  · simp

theorem pick_head (gs : List (ByteArray × ByteArray)) (f key : ByteArray) (es : List (ByteArray × Int)) : (pickS ((f, key) :: gs) f es).1 = nextS es key := by
  simp [pickS, nextS]
end Go.Proofs.YtjeafniglnnkhaaGreatDoor
