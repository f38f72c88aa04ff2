/- Plain words: what audit.Shares tells. -/
import Derived.Test.YtjeafniglnnkhaaGreatDoorHS5
import Derived.Lib.SlBy
namespace Go.Proofs.YtjeafniglnnkhaaGreatDoor
open Go.RowKit Go.Sort

section
variable {α : Type} [Inhabited α] [DecidableEq α]

theorem compactUpTo_mem (d : Array α) : ∀ m, ∀ x ∈ Lib.compactUpTo d m, ∃ i, i < m ∧ x = d[i]! := by
  intro m x hx
  unfold Lib.compactUpTo at hx
  obtain ⟨i, hi, rfl⟩ := List.mem_map.1 hx
  exact ⟨i, List.mem_range.1 (List.mem_filter.1 hi).1, rfl⟩

theorem compactUpTo_strict (f : α → α → Int) (hf : Cmp f) (d : Array α) (hs : ∀ i j, i < j → j < d.size → ¬ f d[j]! d[i]! < 0) : ∀ m, m ≤ d.size → (Lib.compactUpTo d m).Pairwise fun a b => f a b = -1
  | 0, _ => by simp [Lib.compactUpTo]
  | m + 1, hm => by
    rw [Lib.compactUpTo_succ, List.pairwise_append]
    refine ⟨compactUpTo_strict f hf d hs m (by omega), ?_, ?_⟩
    · split <;> simp
    · intro a ha b hb
      obtain ⟨i, hi, rfl⟩ := compactUpTo_mem d m a ha
      by_cases hk : Lib.keeps d m = true
      · rw [if_pos hk] at hb
        simp at hb
        subst hb
        have hne : d[m]! ≠ d[m - 1]! := by
          simp [Lib.keeps] at hk
          rcases hk with hk | hk
          · omega
          · exact hk
        have h1 := hs i m hi (by omega)
        rcases hf.vals d[i]! d[m]! with h | h | h
        · exact h
        · exfalso
          have e := (hf.eq_ _ _).1 h
          by_cases him : i = m - 1
          · subst him; exact hne e.symm
          · have h2 := hs i (m - 1) (by omega) (by omega)
            have h3 := hs (m - 1) m (by omega) (by omega)
            rw [e] at h2
            have h4 := hf.neg d[m - 1]! d[m]!
            have h5 := hf.vals d[m - 1]! d[m]!
            have h6 : f d[m - 1]! d[m]! = 0 := by omega
            exact hne ((hf.eq_ _ _).1 h6).symm
        · have := hf.neg d[i]! d[m]!
          omega
      · rw [if_neg hk] at hb
        simp at hb
end

def bytesOf (x : List UInt8) : ByteArray := ⟨x.toArray⟩
theorem bytesOf_list (x : List UInt8) : (bytesOf x).data.toList = x := by simp [bytesOf]
theorem bytesOf_data (x : ByteArray) : bytesOf x.data.toList = x := by cases x; simp [bytesOf]

def cmpB (x y : List UInt8) : Int := compareS (bytesOf x) (bytesOf y)
theorem cmpB_cmp : Cmp cmpB :=
  have h := compareS_cmp
  ⟨fun a b => h.vals _ _, fun a b => (h.eq_ _ _).trans ⟨fun e => by have := congrArg (·.data.toList) e; simpa [bytesOf] using this, fun e => by rw [e]⟩, fun a b => h.neg _ _, fun a b c => h.trans _ _ _⟩

/-- An ask whose filter is shared, of a quality, its inner filter matching the topic. -/
def okAsk (t : ByteArray) (a : ByteArray × Int) : Bool :=
  match sharedS a.1 with
  | some (_, i) => goodB a.2 && matchS i t
  | none => false
def askFilters (t : ByteArray) (l : List (ByteArray × Int)) : List ByteArray := (l.filter (okAsk t)).map (·.1)
def filtersS (t : ByteArray) (ses : List Ses) : List ByteArray := ses.flatMap fun S => askFilters t S.subs
/-- The filters that audit.Shares tells of, in their order. -/
def turnsOf (t : ByteArray) (ses : List Ses) : List ByteArray := (Lib.compact ((sortedS (filtersS t ses)).map (·.data.toList))).map bytesOf

theorem filtersS_take (t : ByteArray) (ses : List Ses) (k : Nat) (h : k < ses.length) : filtersS t (ses.take (k + 1)) = filtersS t (ses.take k) ++ askFilters t ses[k].subs := by
  unfold filtersS
  rw [List.take_succ_eq_append_getElem h, List.flatMap_append]
  simp only [List.flatMap_cons, List.flatMap_nil, List.append_nil]
theorem askFilters_take (t : ByteArray) (l : List (ByteArray × Int)) (j : Nat) (h : j < l.length) : askFilters t (l.take (j + 1)) = askFilters t (l.take j) ++ if okAsk t l[j] then [l[j].1] else [] := by
  unfold askFilters
  rw [List.take_succ_eq_append_getElem h, List.filter_append, List.map_append]
  by_cases ho : okAsk t l[j] = true <;> simp only [List.filter_cons, List.filter_nil, ho] <;> rfl

theorem sortedS_perm (l : List ByteArray) : (sortedS l).Perm l := List.mergeSort_perm _ _

theorem sortedS_order (l : List ByteArray) : (sortedS l).Pairwise fun a b => ¬ compareS b a < 0 := by
  have h := compareS_cmp
  have := List.pairwise_mergeSort (le := fun x y => !(ltOf compareS y x)) (fun a b c h1 h2 => by
    simp only [Bool.not_eq_true'] at *
    exact h.swo.ntrans c b a h2 h1) (fun a b => by
    by_cases h1 : compareS b a < 0
    · have := h.neg a b
      have h2 : ¬ compareS a b < 0 := by omega
      simp [ltOf, h1, h2]
    · simp [ltOf, h1]) l
  refine this.imp fun {a b} h1 => ?_
  simp [ltOf] at h1
  omega

theorem turnsOf_mem {t : ByteArray} {ses : List Ses} {f : ByteArray} (h : f ∈ turnsOf t ses) : f ∈ filtersS t ses := by
  obtain ⟨x, hx, rfl⟩ := List.mem_map.1 h
  obtain ⟨i, hi, rfl⟩ := compactUpTo_mem _ _ x hx
  have hi' : i < (sortedS (filtersS t ses)).length := by simpa using hi
  have : bytesOf ((sortedS (filtersS t ses)).map (·.data.toList)).toArray[i]! = (sortedS (filtersS t ses))[i] := by
    simp [hi', bytesOf_data]
  rw [this]
  exact (sortedS_perm _).mem_iff.1 (List.getElem_mem hi')

theorem turnsOf_order (t : ByteArray) (ses : List Ses) : (turnsOf t ses).Pairwise fun a b => compareS a b = -1 := by
  unfold turnsOf
  rw [List.pairwise_map]
  refine compactUpTo_strict cmpB cmpB_cmp _ (fun i j hij hj => ?_) _ (by simp)
  have hj' : j < (sortedS (filtersS t ses)).length := by simpa using hj
  have hi' : i < (sortedS (filtersS t ses)).length := by omega
  have := List.pairwise_iff_getElem.1 (sortedS_order (filtersS t ses)) i j hi' hj' hij
  simp [cmpB, hi', hj', bytesOf_data]
  omega

theorem filtersS_mem {t : ByteArray} {ses : List Ses} {f : ByteArray} (h : f ∈ filtersS t ses) : ∃ S ∈ ses, ∃ a ∈ S.subs, a.1 = f ∧ okAsk t a = true := by
  obtain ⟨S, hS, h⟩ := List.mem_flatMap.1 h
  obtain ⟨a, ha, rfl⟩ := List.mem_map.1 h
  have := List.mem_filter.1 ha
  exact ⟨S, hS, a, this.1, rfl, this.2⟩

/-! ### who has a filter -/
def onF (f : ByteArray) (a : ByteArray × Int) : Bool := a.1.toList == f.toList

theorem ite_two {α : Type} (c : Bool) (x y : α) : (if c = true then x else y) = x ∨ (if c = true then x else y) = y := by cases c <;> simp

theorem stepM_two (p : ByteArray × Int → Bool) (c : List UInt8) (m : KeyMap) (a : ByteArray × Int) : stepM p c m a = m ∨ stepM p c m a = fun y => if y = c then some a.2 else m y :=
  (ite_two _ _ _).symm

theorem subsM_keep (p : ByteArray × Int → Bool) (c x : List UInt8) (h : x ≠ c) : ∀ (l : List (ByteArray × Int)) (m : KeyMap), subsM p c l m x = m x
  | [], m => rfl
  | a :: l, m => by
    show subsM p c l (stepM p c m a) x = m x
    rw [subsM_keep p c x h l]
    rcases stepM_two p c m a with h2 | h2
    · rw [h2]
    · rw [h2]; exact if_neg h

theorem stepM_some {p : ByteArray × Int → Bool} {c x : List UInt8} {m : KeyMap} {a : ByteArray × Int} (h : (m x).isSome = true) : (stepM p c m a x).isSome = true := by
  rcases stepM_two p c m a with h2 | h2
  · rw [h2]; exact h
  · rw [h2]
    by_cases hx : x = c
    · simp [hx]
    · simpa [hx] using h

theorem subsM_some (p : ByteArray × Int → Bool) (c x : List UInt8) : ∀ (l : List (ByteArray × Int)) (m : KeyMap), (m x).isSome = true → (subsM p c l m x).isSome = true
  | [], _, h => h
  | _ :: l, _, h => subsM_some p c x l _ (stepM_some h)

theorem subsM_hit (p : ByteArray × Int → Bool) (c : List UInt8) : ∀ (l : List (ByteArray × Int)) (m : KeyMap), (∃ a ∈ l, goodB a.2 = true ∧ p a = true) → (subsM p c l m c).isSome = true
  | [], _, ⟨_, h, _⟩ => by cases h
  | b :: l, m, ⟨a, ha, hg, hp⟩ => by
    rcases List.mem_cons.1 ha with rfl | ha
    · refine subsM_some p c c l _ ?_
      unfold stepM
      cases hm : m c with
      | none => simp [hg, hp]
      | some o =>
        by_cases ho : o < a.2
        · simp [hg, hp, ho]
        · simp [ho, hm]
    · exact subsM_hit p c l _ ⟨a, ha, hg, hp⟩

theorem subsM_miss (p : ByteArray × Int → Bool) (c : List UInt8) : ∀ (l : List (ByteArray × Int)) (m : KeyMap), (∀ a ∈ l, ¬ (goodB a.2 = true ∧ p a = true)) → subsM p c l m = m
  | [], _, _ => rfl
  | b :: l, m, h => by
    show subsM p c l (stepM p c m b) = m
    have : stepM p c m b = m := by
      have := h b (by simp)
      unfold stepM
      rw [if_neg]
      intro h2
      simp at h2
      exact this h2.1
    rw [this]
    exact subsM_miss p c l m fun a ha => h a (by simp [ha])

/-- A key is met just if a session of that client has a filter that is asked for. -/
theorem sesM_isSome (p : ByteArray × Int → Bool) (x : List UInt8) : ∀ (l : List Ses) (m : KeyMap), (sesM p l m x).isSome = true ↔ (m x).isSome = true ∨ ∃ S ∈ l, S.client.data.toList = x ∧ ∃ a ∈ S.subs, goodB a.2 = true ∧ p a = true
  | [], m => by simp [sesM]
  | S :: l, m => by
    have ih := sesM_isSome p x l (subsM p S.client.data.toList S.subs m)
    show (sesM p l (subsM p S.client.data.toList S.subs m) x).isSome = true ↔ _
    rw [ih]
    constructor
    · rintro (h | ⟨T, hT, h⟩)
      · by_cases hx : x = S.client.data.toList
        · by_cases hh : ∃ a ∈ S.subs, goodB a.2 = true ∧ p a = true
          · exact .inr ⟨S, by simp, hx.symm, hh⟩
          · rw [subsM_miss p _ S.subs m (fun a ha h2 => hh ⟨a, ha, h2⟩)] at h
            exact .inl h
        · rw [subsM_keep p _ x hx] at h
          exact .inl h
      · exact .inr ⟨T, by simp [hT], h⟩
    · rintro (h | ⟨T, hT, hc, h⟩)
      · exact .inl (subsM_some p _ x S.subs m h)
      · rcases List.mem_cons.1 hT with rfl | hT
        · left
          rw [← hc]
          exact subsM_hit p _ T.subs m h
        · exact .inr ⟨T, hT, hc, h⟩

/-- The entry that is served next. -/
def pickS (gs : List (ByteArray × ByteArray)) (f : ByteArray) (es : List (ByteArray × Int)) : ByteArray × Int :=
  match gs.find? (fun g => g.1.toList == f.toList) with
  | some g => (es.find? fun e => laterB e.1 g.2).getD (es.headD default)
  | none => es.headD default

structure ShareOk (I : Img) (q : Int) (f : ByteArray) (s : ByteArray × ByteArray × Int) : Prop where
  filter : s.1 = f
  rest : ∃ es, IsGathered (sesM (onF f) I.ses fun _ => none) es ∧ es ≠ [] ∧ s.2.1 = (pickS I.groups f es).1 ∧ s.2.2 = min (pickS I.groups f es).2 q

structure IsShares (I : Img) (t : ByteArray) (q : Int) (l : List (ByteArray × ByteArray × Int)) : Prop where
  bad : goodB q = false → l = []
  len : goodB q = true → l.length = (turnsOf t I.ses).length
  at_ : goodB q = true → ∀ i (h : i < l.length) (h2 : i < (turnsOf t I.ses).length), ShareOk I q (turnsOf t I.ses)[i] l[i]

def encS (s : ByteArray × ByteArray × Int) : List Value := [.string s.1, .string s.2.1, .int .i64 s.2.2]
theorem encS_len (s : ByteArray × ByteArray × Int) : (encS s).length = 3 := rfl

theorem isGathered_ne {I : Img} {f t : ByteArray} (h : f ∈ turnsOf t I.ses) {es : List (ByteArray × Int)} (hg : IsGathered (sesM (onF f) I.ses fun _ => none) es) : es ≠ [] := by
  intro he
  obtain ⟨S, hS, a, ha, haf, hok⟩ := filtersS_mem (turnsOf_mem h)
  have hgood : goodB a.2 = true := by
    unfold okAsk at hok
    split at hok
    · exact (Bool.and_eq_true_iff.1 hok).1
    · cases hok
  have hs := (sesM_isSome (onF f) S.client.data.toList I.ses fun _ => none).2 (.inr ⟨S, hS, rfl, a, ha, hgood, by simp [onF, haf]⟩)
  obtain ⟨q, hq⟩ := Option.isSome_iff_exists.1 hs
  have := (hg.mem S.client q).2 hq
  rw [he] at this
  cases this
end Go.Proofs.YtjeafniglnnkhaaGreatDoor
