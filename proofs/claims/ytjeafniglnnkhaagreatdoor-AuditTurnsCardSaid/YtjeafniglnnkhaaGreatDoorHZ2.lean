/- AuditTurns returns true at every image and message that read as data, its arguments reading behind the call as before: the tied card. Its condition: the listed package-level variables start as the program's text lays them, which the card ties. -/
import Derived.Test.YtjeafniglnnkhaaGreatDoorCards
import Derived.Test.YtjeafniglnnkhaaGreatDoorTie
import Derived.Test.YtjeafniglnnkhaaGreatDoorHZ1
import Derived.Test.YtjeafniglnnkhaaGreatDoorHK19
import Derived.ProofKit
import Derived.OpenShut
import Derived.Lay
import Derived.MakeChecks
import Derived.SevenTiedAt
import Derived.Stop.Joined
import Derived.Handed
import Derived.WideKeyArgs
namespace Go.Proofs.YtjeafniglnnkhaaGreatDoor
open Go.ChangeShapes Go.WideShapes Go.ChangeAt Go.RowKit

theorem own : ownKnob Tryz.prog.godebug = none := by kernel_rfl
theorem laidOut : laidOutB Tryz.prog = true := by kernel_rfl
theorem read26 : Tryz.prog.readableRec 26 = true := by kernel_rfl
theorem read29 : Tryz.prog.readableRec 29 = true := by kernel_rfl
theorem row26 : 26 < Tryz.prog.types.size := of_decide_eq_true (by kernel_rfl)
theorem row29 : 29 < Tryz.prog.types.size := of_decide_eq_true (by kernel_rfl)

section
variable {H : Type} {enc : TypeId × Value → H} {P : Program}
/-- The row's last step where of the world behind the call it is known that all that was there is as it was. -/
theorem post_of_below {f : Func} {s : ChangeSpec} {apart fresh handsOn again : Bool} {W W' : World} {args : Array Value} {v : Value} {ds gs : List (DataW H)} {before pa pv : List MemPlace}
    (hW : DataW.Whole enc P f.params.toList s.vars apart W args.toList ds gs before)
    (hres : ∀ (b : Nat) (sp : Nat → Bool) (hd : Bool), DataW.TrodAll enc P W' b sp hd f.resultTypes.toList (v.resultList f.resultTypes.size) (s.fn H (ds ++ gs)).results [])
    (hargs : ∀ sp : Nat → Bool, (∀ p ∈ before, sp p.block = true) → DataW.TrodAll enc P W' 0 sp true f.params.toList args.toList (s.fn H (ds ++ gs)).args pa)
    (hvars : ∀ sp : Nat → Bool, (∀ p ∈ before, sp p.block = true) → DataW.TrodVars enc P W' sp s.vars (s.fn H (ds ++ gs)).vars pv)
    (hps : before = pa ++ pv) (hb : Below W.heap.size W W')
    (hok : ∀ (j : Nat) (t : TypeId) (r : Value), f.resultTypes[j]? = some t → (v.resultList f.resultTypes.size)[j]? = some r → Value.okWide P W' .any 0 t r) :
    s.post enc P f apart fresh handsOn again W args v W' := by
  have hlt : ∀ p ∈ before, p.block < W.heap.size := fun p hp => hW.lt p hp
  have hold : ∀ p ∈ before, (fun b => decide (b < W.heap.size)) p.block = true := fun p hp => by simpa using hlt p hp
  refine ⟨ds, gs, before, [], pa, pv, hW, hres _ _ _, hargs _ hold, hvars _ hold, World.keptBut_mono (fun p hp => ⟨hp, ?_⟩) (hb.frame (· ∈ before)), fun _ => ?_⟩
  · rw [hps, List.mem_append] at hp
    exact Or.inr hp
  · obtain ⟨_, _, _, _, _, hz, hn⟩ := hW
    refine ⟨hok, _, _, ([] ++ pa) ++ pv, ⟨[] ++ pa, pv, trodAll_append (hargs _ (fun _ _ => rfl)) (hres _ _ _), hvars _ (fun _ _ => rfl), rfl, ?_, ?_⟩, ?_⟩
    · intro b off hp
      have hin : MemPlace.cell b off ∈ before := by rw [hps]; simpa using hp
      rw [hb.frozen (hlt _ hin)]
      exact hz b off hin
    · intro ha
      have := hn ha
      rw [hps] at this
      simpa using this
    · intro p hp _
      rw [hps]
      simpa using hp
end

theorem same_of_below {W W' : World} (hb : Below W.heap.size W W') {p : MemPlace} (hp : p.block < W.heap.size) : W.sameAt W' p := by
  cases p with
  | cell b off => exact hb.cell (p := ⟨b, off, none⟩) hp
  | map b => exact hb.block b hp

set_option maxRecDepth 100000 in
/-- WHAT THE WALKS GIVE, FOR EVERY IMAGE AND MESSAGE. -/
theorem contract (H : Type) (enc : TypeId × Value → H) (W : World) (base : Nat) (args : Array Value) (ds gs : List (DataW H)) (before : List MemPlace)
    (hval : ∀ (j : Nat) t v, Tryz.f3.params[j]? = some t → args[j]? = some v → Value.okWide Tryz.prog W .any base t v)
    (hW : DataW.Whole enc Tryz.prog Tryz.f3.params.toList Rows.auditTurnsSpec.vars false W args.toList ds gs before)
    (hsz : (DataW.weightsEach Tryz.prog (Tryz.f3.params.toList ++ Rows.auditTurnsSpec.plain.varTypes Tryz.prog) (ds ++ gs)).all (· ≤ reachBytes) = true) :
    Calls Tryz.prog 3 args W fun e W' => ∃ v, e = .returned v ∧ Rows.auditTurnsSpec.post enc Tryz.prog Tryz.f3 false true false false W args v W' := by
  have hW' := hW
  obtain ⟨p, q, hA0, hV, rfl, hfz, hnd⟩ := hW
  have hA : DataW.TrodAll enc Tryz.prog W 0 (fun _ => true) true Tryz.f3.params.toList args.toList ds p := hA0
  have hT : ∀ d ∈ DataW.weightsEach Tryz.prog (Tryz.f3.params.toList ++ Rows.auditTurnsSpec.plain.varTypes Tryz.prog) (ds ++ gs), d ≤ reachBytes := fun d hd => by simpa using List.all_eq_true.1 hsz d hd
  rw [Tryz.params3] at hA hval hT
  obtain ⟨v0, vs0, d0, ds0, p0, q0, hargs, rfl, rfl, h0, r0⟩ := trodAll_cons hA
  obtain ⟨v1, vs1, d1, ds1, p1, q1, hargs1, rfl, rfl, h1, r1⟩ := trodAll_cons r0
  obtain ⟨rfl, rfl, rfl⟩ := trodAll_nil r1
  obtain rfl : args = #[v0, v1] := by cases args; simp_all
  obtain ⟨rfl, rfl⟩ := trodVars_none hV
  have f0 : Fits 26 d0 := fun n hn => hT n (DataW.weights_mem_each (j := 0) rfl rfl n hn)
  have f1 : Fits 29 d1 := fun n hn => hT n (DataW.weights_mem_each (j := 1) rfl rfl n hn)
  have k0 := h0
  have k1 := h1
  obtain ⟨a0, a1, a2, a3, y0, y1, y2, y3, n0, rfl, rfl, rfl, ha0, ha1, ha2, ha3⟩ := Joins.open_agg4 Tryz.underlying26 (by kernel_rfl) cells26 (hval 0 26 v0 rfl rfl) h0
  obtain ⟨b0, b1, b2, b3, z0, z1, z2, z3, n1, rfl, rfl, rfl, hb0, hb1, hb2, hb3⟩ := Joins.open_agg4 Tryz.underlying29 (by kernel_rfl) cells29 (hval 1 29 v1 rfl rfl) h1
  obtain ⟨autos, e0, _⟩ := DataW.trod_int Tryz.underlying3 ha0
  injection e0 with e0
  subst e0
  obtain ⟨I, hI⟩ := read_img (enc := enc) (w := W) (base := 0) (spare := fun _ => true) (held := true) ⟨n0, y1, ha1, f0.part Tryz.underlying26 (j := 1) rfl rfl⟩ ⟨n0, y2, ha2, f0.part Tryz.underlying26 (j := 2) rfl rfl⟩ ⟨n0, y3, ha3, f0.part Tryz.underlying26 (j := 3) rfl rfl⟩
  obtain ⟨t, e1, ht⟩ := Reads.string (enc := enc) (w := W) (base := 0) (spare := fun _ => true) (held := true) Tryz.underlying9 ⟨n1, z0, hb0, f1.part Tryz.underlying29 (j := 0) rfl rfl⟩
  injection e1 with e1
  subst e1
  obtain ⟨m, hm, ⟨Am, cm, rfl⟩, _⟩ := Reads.rows (enc := enc) (w := W) (base := 0) (spare := fun _ => true) (held := true) (v := b1) 1 Tryz.underlying27 cells5 (by decide) bytes5 ⟨n1, z1, hb1, f1.part Tryz.underlying29 (j := 1) rfl rfl⟩
  obtain ⟨q, e2, _⟩ := DataW.trod_int Tryz.underlying3 hb2
  injection e2 with e2
  subst e2
  obtain ⟨r, e3, _⟩ := DataW.trod_bool Tryz.underlying4 hb3
  injection e3 with e3
  subst e3
  refine (auditTurns_any known_true autos a1 a2 a3 I t Am m cm q r W hI ht hm).mono fun e W' ⟨he, hb⟩ => ?_
  subst he
  refine ⟨_, rfl, post_of_below (pv := []) hW' (fun _ _ _ => trodAll_cons_mk (shut_bool Tryz.underlying4 _) trodAll_mk0) (fun sp hs => ?_) (fun _ _ => rfl) rfl hb (ok_one (by kernel_rfl) rfl (okWide_bool_mk Tryz.underlying4 _))⟩
  refine trodAll_cons_mk (Go.WideElems.Trod_stays laidOut read26 row26 k0 (fun x hx => same_of_below hb (hW'.lt x ?_)) (fun x hx => hs x ?_)) (trodAll_cons_mk (Go.WideElems.Trod_stays laidOut read29 row29 k1 (fun x hx => same_of_below hb (hW'.lt x ?_)) (fun x hx => hs x ?_)) trodAll_mk0)
  all_goals (simp only [List.mem_append]; simp only [List.mem_append] at hx; simp [hx])
end Go.Proofs.YtjeafniglnnkhaaGreatDoor

namespace Go.Proofs.YtjeafniglnnkhaaGreatDoor
open Go.ChangeShapes Go.WideShapes Go.ChangeAt Go.RowKit

set_option maxRecDepth 100000 in
theorem lifted (os : Os) (started : os.Started) (H : Type) (enc : TypeId × Value → H) :
    ReturnsInHanded {} Tryz.checked os 3 .any (fun w args => (Rows.auditTurnsSpec.pre enc Tryz.prog Tryz.f3 Rows.auditTurnsRow.domain false w args ∧ laidMetH Tryz.prog Rows.auditTurnsRow.laid w) ∧ sizedMet enc Tryz.prog Tryz.f3 (OpenSpec.ofChange Rows.auditTurnsSpec) false w args)
      (Rows.auditTurnsSpec.post enc Tryz.prog Tryz.f3 false true false false) := by
  refine returnsInHanded_of_change_and (C := Tryz.checked) (X := fun w _ => laidMetH Tryz.prog Rows.auditTurnsRow.laid w) (fun _ _ _ hh h => h.of_heap hh) own started (by kernel_rfl) Tryz.func3
    (ChangeSpec.witness_shaped (enc := enc) (C := Tryz.checked) (os := os) (X := fun w _ => laidMetH Tryz.prog Rows.auditTurnsRow.laid w) false (World.laidAll Tryz.prog os Rows.auditTurnsRow.laid)
      #[.agg #[.int .i64 0, .slice none 0 0, .slice none 0 0, .slice none 0 0], .agg #[.string ⟨#[]⟩, .slice none 0 0, .int .i64 0, .bool false]] 8 (World.laidAll_os _ _ _)
      (World.shaped_of_ZipB (by kernel_rfl) (by kernel_rfl)) (by kernel_rfl) (by kernel_rfl) (by kernel_rfl)
      (by rw [MakeChecks.laidMetH_plain _ _ _ (by kernel_rfl)]; exact laidMet_laidAll _ (by kernel_rfl) (by kernel_rfl))) ?_
  intro W base args ds gs before hval hW _ hsz _ _
  exact contract H enc W base args ds gs before hval hW hsz

theorem auditTurns_said : Rows.AuditTurnsSaid :=
  OpenClaim.holds_of_wide 3 Tryz.f3 rfl rfl rfl rfl rfl rfl rfl ⟨rfl, rfl, rfl, rfl, rfl⟩ rfl rfl rfl rfl rfl (by kernel_rfl) Tryz.func3 (by kernel_rfl)
    (of_decide_eq_true (by kernel_rfl)) (by unfold Func.isWrapper; first | (rw [if_pos (by decide +kernel)]; kernel_rfl) | (rw [if_neg (by decide +kernel)]; exact ⟨rfl, rfl⟩))
    (fun os started H enc _ => lifted os started H enc)
end Go.Proofs.YtjeafniglnnkhaaGreatDoor

namespace Go.Proofs.YtjeafniglnnkhaaGreatDoor
open Go

theorem plain (f : FuncId) (fn : Func) (hf : Tryz.pinned.checked.prog.funcNamed "crier/crierlaw21.AuditTurns" = some f) (hfn : Tryz.pinned.checked.prog.funcs[f]? = some fn) :
    true = Tryz.pinned.checked.prog.looks [] ∧ ∀ (j : Nat) t, fn.params[j]? = some t → Tryz.pinned.checked.prog.wantsStandIn t = false := by
  obtain rfl : f = 3 := Option.some.inj ((show Tryz.prog.funcNamed "crier/crierlaw21.AuditTurns" = some 3 by kernel_rfl).symm.trans hf) |>.symm
  obtain rfl : fn = Tryz.f3 := (Option.some.inj (Tryz.func3.symm.trans hfn)).symm
  refine ⟨by kernel_rfl, fun j t ht => ?_⟩
  rw [Tryz.params3] at ht
  have hm : t ∈ [26, 29] := by simpa using Array.mem_of_getElem? ht
  have hall : ([26, 29].all fun u => !Tryz.prog.wantsStandIn u) = true := by kernel_rfl
  exact (show Tryz.prog.wantsStandIn t = false by simpa using List.all_eq_true.1 hall t hm)

theorem auditTurns_card : Rows.AuditTurnsCardSaid :=
  Claim7.holds_tied_plain_at .later [] _ _ _ _ auditTurns_said (fun _ h => by cases h) (by kernel_rfl) (fun _ h => by cases h) auditTurns_row_tie rfl ⟨rfl, rfl⟩ (by kernel_rfl) rfl plain (by kernel_rfl)
end Go.Proofs.YtjeafniglnnkhaaGreatDoor
