/- Plain laws: the order of texts. -/
import Derived.Test.YtjeafniglnnkhaaGreatDoorHS3
import Derived.Shelf.SlSortCmp.Insertion
namespace Go.Proofs.YtjeafniglnnkhaaGreatDoor
open Go

theorem less_eq : ∀ (x y : List UInt8), Op.bytesLess x y = decide (x < y)
  | [], [] => by simp [Op.bytesLess]
  | _ :: _, [] => by simp [Op.bytesLess]
  | [], _ :: _ => by simp [Op.bytesLess]
  | a :: x, b :: y => by
    rw [Op.bytesLess, less_eq x y]
    simp only [List.cons_lt_cons_iff]
    by_cases h1 : a < b <;> by_cases h2 : a = b <;> by_cases h3 : x < y <;> simp [h1, h2, h3]

theorem toList_inj {a b : ByteArray} (h : a.toList = b.toList) : a = b := by
  rw [Lib.toList_data, Lib.toList_data] at h
  cases a; cases b
  simp at h
  rw [h]

/-- What a three-way comparison that tells a total order keeps. -/
structure Cmp {α : Type} (f : α → α → Int) : Prop where
  vals : ∀ a b, f a b = -1 ∨ f a b = 0 ∨ f a b = 1
  eq_ : ∀ a b, f a b = 0 ↔ a = b
  neg : ∀ a b, f b a = - f a b
  trans : ∀ a b c, f a b = -1 → f b c = -1 → f a c = -1

theorem cmpS_cmp : Cmp cmpS := by
  have key : ∀ a b : ByteArray, cmpS a b = if a.toList < b.toList then -1 else if a.toList = b.toList then 0 else 1 := fun a b => by
    unfold cmpS
    rw [less_eq]
    by_cases h : a.toList < b.toList <;> by_cases h2 : a.toList = b.toList <;> simp [h, h2]
  have irr : ∀ l : List UInt8, ¬ l < l := fun l => List.lt_irrefl l
  refine ⟨fun a b => ?_, fun a b => ?_, fun a b => ?_, fun a b c h1 h2 => ?_⟩
  · rw [key]; split
    · simp
    · split <;> simp
  · rw [key]
    constructor
    · intro h
      split at h
      · simp at h
      · split at h
        · exact toList_inj ‹_›
        · simp at h
    · rintro rfl
      rw [if_neg (irr _), if_pos rfl]
  · rw [key, key]
    by_cases h1 : a.toList < b.toList
    · have h2 : ¬ b.toList < a.toList := fun h => irr _ (List.lt_trans h1 h)
      have h3 : ¬ b.toList = a.toList := fun h => irr _ (h ▸ h1)
      rw [if_pos h1, if_neg h2, if_neg h3]; rfl
    · by_cases h2 : b.toList < a.toList
      · have h3 : ¬ a.toList = b.toList := fun h => irr _ (h ▸ h2)
        rw [if_pos h2, if_neg h1, if_neg h3]
      · have h3 : a.toList = b.toList := List.le_antisymm (List.not_lt.1 h2) (List.not_lt.1 h1)
        rw [if_neg h1, if_neg h2, if_pos h3, if_pos h3.symm]; rfl
  · rw [key] at h1 h2 ⊢
    have l1 : a.toList < b.toList := by
      by_cases h : a.toList < b.toList
      · exact h
      · rw [if_neg h] at h1; split at h1 <;> simp at h1
    have l2 : b.toList < c.toList := by
      by_cases h : b.toList < c.toList
      · exact h
      · rw [if_neg h] at h2; split at h2 <;> simp at h2
    rw [if_pos (List.lt_trans l1 l2)]

theorem cmpL_cmp : Cmp cmpL := by
  have hS := cmpS_cmp
  have vals : ∀ a b, cmpL a b = -1 ∨ cmpL a b = 0 ∨ cmpL a b = 1 := by
    intro a
    induction a with
    | nil => intro b; cases b <;> simp [cmpL]
    | cons x a ih =>
      intro b
      cases b with
      | nil => simp [cmpL]
      | cons y b =>
        rw [cmpL]
        split
        · exact ih b
        · exact hS.vals x y
  have eq0 : ∀ a b, cmpL a b = 0 ↔ a = b := by
    intro a
    induction a with
    | nil => intro b; cases b <;> simp [cmpL]
    | cons x a ih =>
      intro b
      cases b with
      | nil => simp [cmpL]
      | cons y b =>
        rw [cmpL]
        split
        · rename_i h
          rw [ih b, (hS.eq_ x y).1 h]
          simp
        · rename_i h
          constructor
          · intro h2; exact absurd h2 h
          · intro h2
            injection h2 with h2 _
            exact absurd ((hS.eq_ x y).2 h2) h
  have neg : ∀ a b, cmpL b a = - cmpL a b := by
    intro a
    induction a with
    | nil => intro b; cases b <;> simp [cmpL]
    | cons x a ih =>
      intro b
      cases b with
      | nil => simp [cmpL]
      | cons y b =>
        rw [cmpL, cmpL, hS.neg x y]
        by_cases h : cmpS x y = 0
        · rw [if_pos h, if_pos (by omega)]; exact ih b
        · rw [if_neg h, if_neg (by omega)]
  refine ⟨vals, eq0, neg, ?_⟩
  intro a
  induction a with
  | nil =>
    intro b c h1 h2
    cases b with
    | nil => simp [cmpL] at h1
    | cons y b =>
      cases c with
      | nil => simp [cmpL] at h2
      | cons z c => simp [cmpL]
  | cons x a ih =>
    intro b c h1 h2
    cases b with
    | nil => simp [cmpL] at h1
    | cons y b =>
      cases c with
      | nil => simp [cmpL] at h2
      | cons z c =>
        rw [cmpL] at h1 h2 ⊢
        by_cases hxy : cmpS x y = 0
        · have exy := (hS.eq_ x y).1 hxy
          subst exy
          rw [if_pos hxy] at h1
          by_cases hyz : cmpS x z = 0
          · rw [if_pos hyz] at h2 ⊢
            exact ih b c h1 h2
          · rw [if_neg hyz] at h2 ⊢
            exact h2
        · rw [if_neg hxy] at h1
          by_cases hyz : cmpS y z = 0
          · have eyz := (hS.eq_ y z).1 hyz
            subst eyz
            rw [if_neg hxy]
            exact h1
          · rw [if_neg hyz] at h2
            have := hS.trans x y z h1 h2
            rw [this]; rfl

theorem compareS_cmp : Cmp compareS := by
  have h := cmpL_cmp
  exact ⟨fun a b => h.vals _ _, fun a b => ⟨fun e => levels_inj ((h.eq_ _ _).1 e), fun e => (h.eq_ _ _).2 (congrArg levelsS e)⟩, fun a b => h.neg _ _, fun a b c => h.trans _ _ _⟩

theorem Cmp.swo {α : Type} {f : α → α → Int} (h : Cmp f) : Go.Sort.SWO (Go.Proofs.ltOf f) where
  irrefl x := by
    unfold Go.Proofs.ltOf
    rw [(h.eq_ x x).2 rfl]; rfl
  trans x y z h1 h2 := by
    unfold Go.Proofs.ltOf at *
    have v1 := h.vals x y
    have v2 := h.vals y z
    have h1' := of_decide_eq_true h1
    have h2' := of_decide_eq_true h2
    have := h.trans x y z (by omega) (by omega)
    exact decide_eq_true (by omega)
  ntrans x y z h1 h2 := by
    unfold Go.Proofs.ltOf at *
    have h1' := of_decide_eq_false h1
    have h2' := of_decide_eq_false h2
    apply decide_eq_false
    intro h3
    have v1 := h.vals x y
    have v2 := h.vals y z
    have v3 := h.vals x z
    by_cases e1 : f x y = 0
    · rw [(h.eq_ x y).1 e1] at h3; exact h2' h3
    · by_cases e2 : f y z = 0
      · rw [(h.eq_ y z).1 e2] at h1'; exact h1' h3
      · have n1 := h.neg x y
        have n2 := h.neg y z
        have n3 := h.neg x z
        have := h.trans z y x (by omega) (by omega)
        omega
end Go.Proofs.YtjeafniglnnkhaaGreatDoor
