/- Words: a region that draws its order, of reads and quiet calls ahead of one writing call: the reads by one walk in the order of the text. -/
import Derived.Test.YtjeafniglnnkhaaGreatDoorHW0
import Derived.StillTailTactics
namespace Go.Proofs.YtjeafniglnnkhaaGreatDoor
open Go.RowKit

theorem still_of_quiet {P : Program} {ops : Array Oper} {w1 : World} {Q : Act → Prop} : ∀ (l : List Oper) (a : Act), wpQuiet P ops (fun W => W = w1) Q l a → wpStill P ops w1 Q l a
  | [], a, h => h
  | o :: rest, a, h => by
    unfold wpQuiet at h
    unfold wpStill
    split at h
    · rename_i hw
      rw [if_pos hw]
      obtain ⟨v, h1, h2⟩ := h
      have h3 := h1 w1 rfl
      unfold Oper.quietAt at h3
      unfold Oper.still
      generalize (execOp a.eval o).run P w1 = r at *
      have h4 := still_of_quiet rest _ h2
      match r, h3 with
      | .ok (.value u) w', h3 => obtain ⟨rfl, rfl⟩ := h3; exact ⟨rfl, h4⟩
      | .ok .skip w', h3 => obtain ⟨rfl, rfl⟩ := h3; exact ⟨rfl, h4⟩
      | .ok (.enter f args) w', h3 => obtain ⟨rfl, h5⟩ := h3; exact ⟨rfl, v, h5, h4⟩
    · rename_i hw
      rw [if_neg hw]
      exact still_of_quiet rest _ h

theorem wp_region_quiet_tail {P : Program} {id : Nat} {Q : Exit → Act → World → Prop} {a : Act} {w : World} {l : List Oper} (n : Nat) (hm : P.follows .mixedOrders = true) (hB : Region.lexTailB .any l.toArray n = true) (w1 : World) (hw1 : w1 = w.drew)
    (h : wpQuiet P l.toArray (fun W => W = w1) (fun a' => wpList P l.toArray Q (l.drop n) a' w1) (l.take n) a) : (Code.region id l.toArray true).wp P Q a w := by
  subst hw1
  exact wp_region_still_tail n hm hB (still_of_quiet _ _ h)
end Go.Proofs.YtjeafniglnnkhaaGreatDoor
