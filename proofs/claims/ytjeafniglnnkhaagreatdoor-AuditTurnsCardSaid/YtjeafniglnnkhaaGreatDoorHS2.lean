/- Plain functions: topics and filters. -/
import Derived.Test.YtjeafniglnnkhaaGreatDoorHS1
import Derived.Lib.Bytealg
import Derived.Lib.Join
namespace Go.Proofs.YtjeafniglnnkhaaGreatDoor
open Go

def textS (s : ByteArray) : Int := if s.toList = [] then 50 else if (checkS s).2 = 0 then 0 else 51
def wildS (s : ByteArray) : Bool := s.data.toList.any fun b => b == 43 || b == 35
def topicS (s : ByteArray) : Int := if textS s = 0 then (if wildS s then 52 else 0) else textS s

/-- One level of a filter from place pos on: does a sign stand where it can't? -/
def scanFrom (s : ByteArray) (last : Bool) : Nat → Nat → Bool
  | 0, _ => false
  | fuel + 1, pos =>
    if pos < s.size then
      if (Utf8.decode s pos).1 = 43 ∨ (Utf8.decode s pos).1 = 35 then decide (1 < s.size) || (decide ((Utf8.decode s pos).1 = 35) && !last)
      else scanFrom s last fuel (pos + (Utf8.decode s pos).2)
    else false
theorem scanFrom_end (s : ByteArray) (last : Bool) (b pos : Nat) (h : ¬ pos < s.size) : scanFrom s last b pos = false := by
  cases b with
  | zero => rfl
  | succ b => simp [scanFrom, h]
def lvBad : List ByteArray → Bool
  | [] => false
  | s :: rest => scanFrom s rest.isEmpty s.size 0 || lvBad rest
def filterS (s : ByteArray) : Int := if textS s = 0 then (if lvBad (levelsS s) then 52 else 0) else textS s

def cmpS (a b : ByteArray) : Int := if Op.bytesLess a.toList b.toList then -1 else if a.toList == b.toList then 0 else 1
def cmpL : List ByteArray → List ByteArray → Int
  | [], [] => 0
  | [], _ :: _ => -1
  | _ :: _, [] => 1
  | a :: as, b :: bs => if cmpS a b = 0 then cmpL as bs else cmpS a b
def compareS (a b : ByteArray) : Int := cmpL (levelsS a) (levelsS b)

def joinS (l : List ByteArray) : ByteArray := ⟨(Lib.join (l.map (·.data.toList)) [47]).toArray⟩

/-- topic.Shared: nothing, or the group's name and the inner filter. -/
def sharedS (s : ByteArray) : Option (ByteArray × ByteArray) :=
  match levelsS s with
  | a :: g :: x :: rest =>
    if a.toList = [36, 115, 104, 97, 114, 101] ∧ topicS g = 0 ∧ filterS (joinS (x :: rest)) = 0 ∧ filterS s = 0 then some (g, joinS (x :: rest)) else none
  | _ => none

def goesS : List ByteArray → List ByteArray → Bool
  | [], t => t.isEmpty
  | f :: fs, t =>
    if f.toList = [35] then true
    else match t with
      | [] => false
      | x :: xs => if f.toList = [43] ∨ f.toList = x.toList then goesS fs xs else false
def matchS (f t : ByteArray) : Bool :=
  if (sharedS f).isSome ∨ filterS f ≠ 0 ∨ topicS t ≠ 0 then false
  else if t.toList.head? = some 36 ∧ ((levelsS f).head?.map (·.toList) = some [43] ∨ (levelsS f).head?.map (·.toList) = some [35]) then false
  else goesS (levelsS f) (levelsS t)
end Go.Proofs.YtjeafniglnnkhaaGreatDoor
