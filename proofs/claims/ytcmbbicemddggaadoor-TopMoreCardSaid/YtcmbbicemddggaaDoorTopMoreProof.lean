/- flickerbooktop.TopMore returns true for every input, and each argument reads behind the call as before. Conditions: none. -/
import Derived.Test.YtcmbbicemddggaaDoorRows
import Derived.Test.YtcmbbicemddggaaDoorLawTopMore
import Derived.ProofKit
import Derived.OpenShut
import Derived.ShutString
import Derived.ChangeOld
import Derived.Below
import Derived.Lib.SmallJoins
import Derived.Test.YtcmbbicemddggaaDoorFacts
import Derived.LaidMore
import Derived.LaidLaws
import Derived.LaidHandle
import Derived.Stop.Joined
import Derived.SevenTiedAt
import Derived.Test.YtcmbbicemddggaaDoorCards
import Derived.Test.YtcmbbicemddggaaDoorTie
import Derived.Test.YtcmbbicemddggaaDoorOpen2
namespace Go.Proofs.YtcmbbicemddggaaDoor.topMore
open Go.ChangeShapes Go.WideShapes Go.ChangeAt Go.RowKit Go.Joins Fb
open Go.ChangeMaps (open_string shut_string)
theorem door_met (os : Os) (args : Array Value) : laidMetH Tryd.prog Rows.topMoreRow.laid ((World.doorLaid Tryd.prog 14 os).forCall (fun _ _ => 0) ⟨#[], args, []⟩).memory :=
  laidMetH_of_parts3 (fuel := 8) (laidMet_of_run' 8 (by kernel_rfl) (by kernel_rfl)) (by kernel_rfl) (by kernel_rfl)
set_option maxRecDepth 100000 in
theorem lifted (os : Os) (started : os.Started) (H : Type) (enc : TypeId × Value → H) :
    ReturnsInHanded {} Tryd.checked os 4 .any (fun w args => (Rows.topMoreSpec.pre enc Tryd.prog Tryd.f4 Rows.topMoreRow.domain false w args ∧ laidMetH Tryd.prog Rows.topMoreRow.laid w) ∧ sizedMet enc Tryd.prog Tryd.f4 (OpenSpec.ofChange Rows.topMoreSpec) false w args) (Rows.topMoreSpec.post enc Tryd.prog Tryd.f4 false true false false) := by
  refine returnsInHanded_of_change_and (C := Tryd.checked) (X := fun w _ => laidMetH Tryd.prog Rows.topMoreRow.laid w) (fun _ _ _ hh h => h.of_heap hh) facts.own started (by kernel_rfl) Tryd.func4
    (ChangeSpec.witness_shaped (enc := enc) (C := Tryd.checked) (os := os) (X := fun w _ => laidMetH Tryd.prog Rows.topMoreRow.laid w) false (World.doorLaid Tryd.prog 14 os) #[.slice none 0 0, .string ByteArray.empty, .string ByteArray.empty, .int .i64 0] 8 rfl (World.shaped_of_RefB (by kernel_rfl) (by kernel_rfl)) (by kernel_rfl) (by kernel_rfl) (by kernel_rfl) (door_met os _)) ?_
  intro W base args ds gs before hval0 hW hcnd hkk hL _
  have hval : ∀ (j : Nat) t v, Tryd.f4.params[j]? = some t → args[j]? = some v → Value.okWide Tryd.prog W .any base t v := hval0
  have hW' := hW
  obtain ⟨p, q, hA0, hV, rfl, hfz, hnd⟩ := hW
  have hA : DataW.TrodAll enc Tryd.prog W 0 (fun _ => true) true Tryd.f4.params.toList args.toList ds p := hA0
  rw [Tryd.params4] at hA hval
  obtain ⟨v0, vs0, d0, ds0, p0, q0, hargs, rfl, rfl, h0, r0⟩ := trodAll_cons hA
  obtain ⟨v1, vs1, d1, ds1, p1, q1, rfl, rfl, rfl, h1, r1⟩ := trodAll_cons r0
  obtain ⟨v2, vs2, d2, ds2, p2, q2, rfl, rfl, rfl, h2, r2⟩ := trodAll_cons r1
  obtain ⟨v3, vs3, d3, ds3, p3, q3, rfl, rfl, rfl, h3, r3⟩ := trodAll_cons r2
  obtain ⟨rfl, rfl, rfl⟩ := trodAll_nil r3
  obtain rfl : args = #[v0, v1, v2, v3] := by cases args; simp_all
  obtain ⟨rfl, rfl⟩ := trodVars_none hV
  have k0 := h0
  have lt0 : ∀ x ∈ p0, x.block < W.heap.size := by obtain ⟨m, hm⟩ := k0; exact DataW.trod_lt m _ _ _ hm
  have k1 := h1
  have lt1 : ∀ x ∈ p1, x.block < W.heap.size := by obtain ⟨m, hm⟩ := k1; exact DataW.trod_lt m _ _ _ hm
  have k2 := h2
  have lt2 : ∀ x ∈ p2, x.block < W.heap.size := by obtain ⟨m, hm⟩ := k2; exact DataW.trod_lt m _ _ _ hm
  have k3 := h3
  have lt3 : ∀ x ∈ p3, x.block < W.heap.size := by obtain ⟨m, hm⟩ := k3; exact DataW.trod_lt m _ _ _ hm
  obtain ⟨a0, rfl, w0⟩ := open_ops (hval 0 22 v0 rfl rfl) h0
  obtain ⟨a1, rfl, rfl, -, -⟩ := open_string Tryd.underlying9 (hval 1 9 v1 rfl rfl) h1
  obtain ⟨a2, rfl, rfl, -, -⟩ := open_string Tryd.underlying9 (hval 2 9 v2 rfl rfl) h2
  obtain ⟨a3, rfl, -, -, w3⟩ := open_int Tryd.underlying3 (hval 3 3 v3 rfl rfl) h3
  rw [Tryd.params4] at hkk
  obtain ⟨y0, x0⟩ := weights_tail hkk
  obtain ⟨y1, x1⟩ := weights_tail x0
  have z1 : a1.size ≤ 0x7ffffffff000 := by have := weights_str y1; simpa [reachBytes] using this
  obtain ⟨y2, x2⟩ := weights_tail x1
  have z2 : a2.size ≤ 0x7ffffffff000 := by have := weights_str y2; simpa [reachBytes] using this
  obtain ⟨y3, x3⟩ := weights_tail x2
  clear hA0 hval0
  refine (topMore_row W a0 w0 a1 z1 a2 z2 a3 w3 (names_laid hL)).mono fun e W' ⟨he, bel⟩ => ?_
  subst he
  exact ⟨_, rfl, _, _, _, [], _, [], hW', trodAll_mk1 (shut_bool Tryd.underlying4 _), (trodAll_cons_mk (Below.trod facts.laid (by kernel_rfl) (of_decide_eq_true (by kernel_rfl)) k0 bel lt0) (trodAll_cons_mk (Below.trod facts.laid (by kernel_rfl) (of_decide_eq_true (by kernel_rfl)) k1 bel lt1) (trodAll_cons_mk (Below.trod facts.laid (by kernel_rfl) (of_decide_eq_true (by kernel_rfl)) k2 bel lt2) (trodAll_cons_mk (Below.trod facts.laid (by kernel_rfl) (of_decide_eq_true (by kernel_rfl)) k3 bel lt3) trodAll_mk0)))), rfl, bel.frame _, fun h => by cases h⟩
theorem j1 : (Rows.topMoreRow.wf (OpenSpec.ofChange Rows.topMoreSpec)) = true := by kernel_rfl
theorem j4 : (Tryd.f4.params.all (Tryd.prog.readableRec ·)) = true := by kernel_rfl
theorem j5 : (namedTie Tryd.prog Rows.topMoreRow.named Rows.topMoreSpec.vars) = true := by kernel_rfl
theorem j10 : ((Rows.topMoreRow.inPlace == Tryd.prog.inPlace 4)) = true := by kernel_rfl
theorem j11 : ((Rows.topMoreRow.unfollowed == Tryd.prog.unfollowed 4)) = true := by kernel_rfl
theorem j12 : ((Rows.topMoreRow.recurses == Tryd.prog.recurses 4)) = true := by kernel_rfl
theorem j13 : ((Rows.topMoreRow.named == Tryd.prog.varsNamed 4)) = true := by kernel_rfl
theorem j14 : ((Rows.topMoreRow.maps == (Tryd.f4.params.toList ++ Rows.topMoreSpec.plain.varTypes Tryd.prog).any (Tryd.prog.mapsRec ·))) = true := by kernel_rfl
theorem j15 : ((Rows.topMoreRow.ifaces == (Tryd.f4.params.toList ++ Rows.topMoreSpec.plain.varTypes Tryd.prog).any (Tryd.prog.ifacesRec ·))) = true := by kernel_rfl
theorem j16 : ((Rows.topMoreRow.mapsOut == Tryd.prog.mapsAmong Tryd.f4.resultTypes.toList)) = true := by kernel_rfl
theorem j17 : ((Rows.topMoreRow.loops == (Tryd.f4.params.toList ++ Rows.topMoreSpec.plain.varTypes Tryd.prog).any (Tryd.prog.loopsFrom ·))) = true := by kernel_rfl
theorem j18 : ((Rows.topMoreRow.wideKeys == (Tryd.f4.params.toList ++ Rows.topMoreSpec.plain.varTypes Tryd.prog ++ Tryd.f4.resultTypes.toList).any (Tryd.prog.wideKeysFrom ·))) = true := by kernel_rfl
theorem j19 : (Rows.topMoreSpec.vars.all (Tryd.prog.varReadable ·)) = true := by kernel_rfl
theorem j20 : (Tryd.f4.resultTypes.all (fun t => Tryd.prog.readableRec t && decide (t < Tryd.prog.types.size))) = true := by kernel_rfl
theorem j21 : ((Rows.topMoreRow.ifacesOut == Tryd.f4.resultTypes.toList.any (Tryd.prog.ifacesRec ·))) = true := by kernel_rfl
theorem j22 : ((Rows.topMoreRow.loopsOut == Tryd.f4.resultTypes.toList.any (Tryd.prog.loopsFrom ·))) = true := by kernel_rfl
theorem j30 : ((Rows.topMoreRow.pinned == Rows.topMoreRow.pinnedBy)) = true := by kernel_rfl
theorem j31 : ((Rows.topMoreRow.veiled == (Tryd.f4.params.toList ++ Rows.topMoreSpec.plain.varTypes Tryd.prog ++ Tryd.f4.resultTypes.toList).any (Tryd.prog.veiledRec ·))) = true := by kernel_rfl
theorem j32 : (Rows.topMoreRow.veiledFits Tryd.prog Tryd.f4.params.toList (Tryd.f4.params.toList ++ Rows.topMoreSpec.plain.varTypes Tryd.prog ++ Tryd.f4.resultTypes.toList)) = true := by kernel_rfl
theorem j23 : (Rows.topMoreRow.plainKeys == Tryd.prog.plainKeys) = true := by rw [facts.plain]; rfl
theorem j27 : (Rows.topMoreRow.lifted == Tryd.prog.liftsFinal) = true := by rw [facts.lifts]; rfl
theorem j28 : (Tryd.prog.make == some Rows.topMoreRow.make) = true := by rw [facts.make]; kernel_rfl
set_option maxRecDepth 100000 in
theorem closed : joinedFacts Tryd.prog 4 Tryd.f4 Rows.topMoreSpec Rows.topMoreRow = true :=
  facts.joined_of Tryd.prog 4 Tryd.f4 Rows.topMoreSpec Rows.topMoreRow j1 facts.laid facts.rowed j4 j5 rfl facts.stops' rfl facts.knobs' j10 j11 j12 j13 j14 j15 j16 j17 j18 j19 j20 j21 j22 j23 rfl facts.heard facts.mayEnter j27 j28 rfl rfl j30 j31 j32
theorem over : Rows.topMoreRow.holds Tryd.pinned (OpenSpec.ofChange Rows.topMoreSpec) :=
  OpenClaim.holds_of_wide 4 Tryd.f4 rfl rfl rfl rfl rfl rfl rfl ⟨rfl, rfl, rfl, rfl, rfl⟩ rfl rfl rfl rfl rfl (by kernel_rfl) Tryd.func4 closed
    (of_decide_eq_true (by kernel_rfl)) (by unfold Func.isWrapper; first | (rw [if_pos (by decide +kernel)]; kernel_rfl) | (rw [if_neg (by decide +kernel)]; exact ⟨rfl, rfl⟩))
    (fun os started H enc _ => lifted os started H enc)
theorem proved : Rows.TopMoreCardSaid :=
  Claim7.holds_tied_plain_at .later [] [.widerDeep] true (true, "4ebcc7d05ecbddccfe7010b108acc2fbe5c2b0d40b123ceb318a7ceaccb74e35") true
    over (fun _ h => by cases h) (by kernel_rfl) (fun _ h => by cases h) topMore_row_tie rfl ⟨rfl, rfl⟩ (by kernel_rfl) rfl
    (fun f fn hf hfn => by
      obtain rfl : f = 4 := Option.some.inj ((show Tryd.prog.funcNamed Rows.topMoreRow.func = some 4 by kernel_rfl).symm.trans hf) |>.symm
      obtain rfl : fn = Tryd.f4 := (Option.some.inj (Tryd.func4.symm.trans hfn)).symm
      exact ⟨by kernel_rfl, fun j t ht => by
        rw [Tryd.params4] at ht
        have hm : t ∈ [22, 9, 9, 3] := by simpa using Array.mem_of_getElem? ht
        have hall : ([22, 9, 9, 3].all fun u => !Tryd.prog.wantsStandIn u) = true := by kernel_rfl
        exact (show Tryd.prog.wantsStandIn t = false by simpa using List.all_eq_true.1 hall t hm)⟩)
    (by kernel_rfl)
end Go.Proofs.YtcmbbicemddggaaDoor.topMore
