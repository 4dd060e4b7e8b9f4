/- flickerbooktop.TopBook returns true for every input, and each argument reads behind the call as before. Conditions: none. -/
import Derived.Test.YtcmbbicemddggaaDoorRows
import Derived.Test.YtcmbbicemddggaaDoorLawTopBook
import Derived.ProofKit
import Derived.OpenShut
import Derived.ShutString
import Derived.ChangeOld
import Derived.Below
import Derived.Lib.SmallJoins
import Derived.Test.YtcmbbicemddggaaDoorFacts
import Derived.LaidMore
import Derived.LaidLaws
import Derived.LaidHandle
import Derived.Stop.Joined
import Derived.SevenTiedAt
import Derived.Test.YtcmbbicemddggaaDoorCards
import Derived.Test.YtcmbbicemddggaaDoorTie
import Derived.Test.YtcmbbicemddggaaDoorOpen2
namespace Go.Proofs.YtcmbbicemddggaaDoor.topBook
open Go.ChangeShapes Go.WideShapes Go.ChangeAt Go.RowKit Go.Joins Fb
open Go.ChangeMaps (open_string shut_string)
theorem door_met (os : Os) (args : Array Value) : laidMetH Tryd.prog Rows.topBookRow.laid ((World.doorLaid Tryd.prog 14 os).forCall (fun _ _ => 0) ⟨#[], args, []⟩).memory :=
  laidMetH_of_parts3 (fuel := 8) (laidMet_of_run' 8 (by kernel_rfl) (by kernel_rfl)) (by kernel_rfl) (by kernel_rfl)
set_option maxRecDepth 100000 in
theorem lifted (os : Os) (started : os.Started) (H : Type) (enc : TypeId × Value → H) :
    ReturnsInHanded {} Tryd.checked os 3 .any (fun w args => (Rows.topBookSpec.pre enc Tryd.prog Tryd.f3 Rows.topBookRow.domain false w args ∧ laidMetH Tryd.prog Rows.topBookRow.laid w) ∧ sizedMet enc Tryd.prog Tryd.f3 (OpenSpec.ofChange Rows.topBookSpec) false w args) (Rows.topBookSpec.post enc Tryd.prog Tryd.f3 false true false false) := by
  refine returnsInHanded_of_change_and (C := Tryd.checked) (X := fun w _ => laidMetH Tryd.prog Rows.topBookRow.laid w) (fun _ _ _ hh h => h.of_heap hh) facts.own started (by kernel_rfl) Tryd.func3
    (ChangeSpec.witness_shaped (enc := enc) (C := Tryd.checked) (os := os) (X := fun w _ => laidMetH Tryd.prog Rows.topBookRow.laid w) false (World.doorLaid Tryd.prog 14 os) #[.slice none 0 0] 8 rfl (World.shaped_of_RefB (by kernel_rfl) (by kernel_rfl)) (by kernel_rfl) (by kernel_rfl) (by kernel_rfl) (door_met os _)) ?_
  intro W base args ds gs before hval0 hW hcnd _ hL _
  have hval : ∀ (j : Nat) t v, Tryd.f3.params[j]? = some t → args[j]? = some v → Value.okWide Tryd.prog W .any base t v := hval0
  have hW' := hW
  obtain ⟨p, q, hA0, hV, rfl, hfz, hnd⟩ := hW
  have hA : DataW.TrodAll enc Tryd.prog W 0 (fun _ => true) true Tryd.f3.params.toList args.toList ds p := hA0
  rw [Tryd.params3] at hA hval
  obtain ⟨v0, vs0, d0, ds0, p0, q0, hargs, rfl, rfl, h0, r0⟩ := trodAll_cons hA
  obtain ⟨rfl, rfl, rfl⟩ := trodAll_nil r0
  obtain rfl : args = #[v0] := by cases args; simp_all
  obtain ⟨rfl, rfl⟩ := trodVars_none hV
  have k0 := h0
  have lt0 : ∀ x ∈ p0, x.block < W.heap.size := by obtain ⟨m, hm⟩ := k0; exact DataW.trod_lt m _ _ _ hm
  obtain ⟨a0, rfl, w0⟩ := open_ops (hval 0 22 v0 rfl rfl) h0
  clear hA0 hval0
  refine (topBook_row W a0 w0 (names_laid hL)).mono fun e W' ⟨he, bel⟩ => ?_
  subst he
  exact ⟨_, rfl, _, _, _, [], _, [], hW', trodAll_mk1 (shut_bool Tryd.underlying4 _), (trodAll_cons_mk (Below.trod facts.laid (by kernel_rfl) (of_decide_eq_true (by kernel_rfl)) k0 bel lt0) trodAll_mk0), rfl, bel.frame _, fun h => by cases h⟩
theorem j1 : (Rows.topBookRow.wf (OpenSpec.ofChange Rows.topBookSpec)) = true := by kernel_rfl
theorem j4 : (Tryd.f3.params.all (Tryd.prog.readableRec ·)) = true := by kernel_rfl
theorem j5 : (namedTie Tryd.prog Rows.topBookRow.named Rows.topBookSpec.vars) = true := by kernel_rfl
theorem j10 : ((Rows.topBookRow.inPlace == Tryd.prog.inPlace 3)) = true := by kernel_rfl
theorem j11 : ((Rows.topBookRow.unfollowed == Tryd.prog.unfollowed 3)) = true := by kernel_rfl
theorem j12 : ((Rows.topBookRow.recurses == Tryd.prog.recurses 3)) = true := by kernel_rfl
theorem j13 : ((Rows.topBookRow.named == Tryd.prog.varsNamed 3)) = true := by kernel_rfl
theorem j14 : ((Rows.topBookRow.maps == (Tryd.f3.params.toList ++ Rows.topBookSpec.plain.varTypes Tryd.prog).any (Tryd.prog.mapsRec ·))) = true := by kernel_rfl
theorem j15 : ((Rows.topBookRow.ifaces == (Tryd.f3.params.toList ++ Rows.topBookSpec.plain.varTypes Tryd.prog).any (Tryd.prog.ifacesRec ·))) = true := by kernel_rfl
theorem j16 : ((Rows.topBookRow.mapsOut == Tryd.prog.mapsAmong Tryd.f3.resultTypes.toList)) = true := by kernel_rfl
theorem j17 : ((Rows.topBookRow.loops == (Tryd.f3.params.toList ++ Rows.topBookSpec.plain.varTypes Tryd.prog).any (Tryd.prog.loopsFrom ·))) = true := by kernel_rfl
theorem j18 : ((Rows.topBookRow.wideKeys == (Tryd.f3.params.toList ++ Rows.topBookSpec.plain.varTypes Tryd.prog ++ Tryd.f3.resultTypes.toList).any (Tryd.prog.wideKeysFrom ·))) = true := by kernel_rfl
theorem j19 : (Rows.topBookSpec.vars.all (Tryd.prog.varReadable ·)) = true := by kernel_rfl
theorem j20 : (Tryd.f3.resultTypes.all (fun t => Tryd.prog.readableRec t && decide (t < Tryd.prog.types.size))) = true := by kernel_rfl
theorem j21 : ((Rows.topBookRow.ifacesOut == Tryd.f3.resultTypes.toList.any (Tryd.prog.ifacesRec ·))) = true := by kernel_rfl
theorem j22 : ((Rows.topBookRow.loopsOut == Tryd.f3.resultTypes.toList.any (Tryd.prog.loopsFrom ·))) = true := by kernel_rfl
theorem j30 : ((Rows.topBookRow.pinned == Rows.topBookRow.pinnedBy)) = true := by kernel_rfl
theorem j31 : ((Rows.topBookRow.veiled == (Tryd.f3.params.toList ++ Rows.topBookSpec.plain.varTypes Tryd.prog ++ Tryd.f3.resultTypes.toList).any (Tryd.prog.veiledRec ·))) = true := by kernel_rfl
theorem j32 : (Rows.topBookRow.veiledFits Tryd.prog Tryd.f3.params.toList (Tryd.f3.params.toList ++ Rows.topBookSpec.plain.varTypes Tryd.prog ++ Tryd.f3.resultTypes.toList)) = true := by kernel_rfl
theorem j23 : (Rows.topBookRow.plainKeys == Tryd.prog.plainKeys) = true := by rw [facts.plain]; rfl
theorem j27 : (Rows.topBookRow.lifted == Tryd.prog.liftsFinal) = true := by rw [facts.lifts]; rfl
theorem j28 : (Tryd.prog.make == some Rows.topBookRow.make) = true := by rw [facts.make]; kernel_rfl
set_option maxRecDepth 100000 in
theorem closed : joinedFacts Tryd.prog 3 Tryd.f3 Rows.topBookSpec Rows.topBookRow = true :=
  facts.joined_of Tryd.prog 3 Tryd.f3 Rows.topBookSpec Rows.topBookRow j1 facts.laid facts.rowed j4 j5 rfl facts.stops' rfl facts.knobs' j10 j11 j12 j13 j14 j15 j16 j17 j18 j19 j20 j21 j22 j23 rfl facts.heard facts.mayEnter j27 j28 rfl rfl j30 j31 j32
theorem over : Rows.topBookRow.holds Tryd.pinned (OpenSpec.ofChange Rows.topBookSpec) :=
  OpenClaim.holds_of_wide 3 Tryd.f3 rfl rfl rfl rfl rfl rfl rfl ⟨rfl, rfl, rfl, rfl, rfl⟩ rfl rfl rfl rfl rfl (by kernel_rfl) Tryd.func3 closed
    (of_decide_eq_true (by kernel_rfl)) (by unfold Func.isWrapper; first | (rw [if_pos (by decide +kernel)]; kernel_rfl) | (rw [if_neg (by decide +kernel)]; exact ⟨rfl, rfl⟩))
    (fun os started H enc _ => lifted os started H enc)
theorem proved : Rows.TopBookCardSaid :=
  Claim7.holds_tied_plain_at .later [] [.widerDeep] true (true, "4ebcc7d05ecbddccfe7010b108acc2fbe5c2b0d40b123ceb318a7ceaccb74e35") true
    over (fun _ h => by cases h) (by kernel_rfl) (fun _ h => by cases h) topBook_row_tie rfl ⟨rfl, rfl⟩ (by kernel_rfl) rfl
    (fun f fn hf hfn => by
      obtain rfl : f = 3 := Option.some.inj ((show Tryd.prog.funcNamed Rows.topBookRow.func = some 3 by kernel_rfl).symm.trans hf) |>.symm
      obtain rfl : fn = Tryd.f3 := (Option.some.inj (Tryd.func3.symm.trans hfn)).symm
      exact ⟨by kernel_rfl, fun j t ht => by
        rw [Tryd.params3] at ht
        have hm : t ∈ [22] := by simpa using Array.mem_of_getElem? ht
        have hall : ([22].all fun u => !Tryd.prog.wantsStandIn u) = true := by kernel_rfl
        exact (show Tryd.prog.wantsStandIn t = false by simpa using List.all_eq_true.1 hall t hm)⟩)
    (by kernel_rfl)
end Go.Proofs.YtcmbbicemddggaaDoor.topBook
