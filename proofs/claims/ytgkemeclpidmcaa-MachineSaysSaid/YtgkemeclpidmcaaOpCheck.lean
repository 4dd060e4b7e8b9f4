/- op.Check: it returns what the plain law of ops says. Conditions: the pixels lie where the picture says, and are few. -/
import Derived.Test.YtgkemeclpidmcaaOpBound
import Derived.Test.YtgkemeclpidmcaaChecks
import Derived.Test.YtgkemeclpidmcaaPlainA
import Derived.RegionTactic
import Derived.BigRegion
namespace Fb
open Go Go.Proofs Go.RowKit Go.Sort
theorem Ints.drop {w : World} {g n : Nat} {l : List Int} (h : Ints w (some ⟨g, 0, none⟩) n l) (M : Nat) (hM : M < n) : Ints w (some ⟨g, M, none⟩) (n - M) (l.drop M) := by
  obtain ⟨h1, h2, h3⟩ := h
  refine ⟨by rw [List.length_drop, h1], by rw [List.length_map, List.length_drop, h1]; omega, fun _ => ?_⟩
  obtain ⟨b, off, e, hb, hc⟩ := h3 (by omega)
  obtain ⟨rfl, rfl⟩ : b = g ∧ off = 0 := by simp at e; omega
  refine ⟨b, M, rfl, hb, fun j u hu => ?_⟩
  have := hc (M + j) u (by rw [List.getElem?_map, List.getElem?_drop] at hu; rw [List.getElem?_map]; exact hu)
  rw [Nat.zero_add] at this
  exact this
def anyNZ (l : List Int) : Bool := l.any (fun n => decide (n ≠ 0))
theorem anyNZ_all (l : List Int) : l.all (fun n => decide (n = 0)) = !anyNZ l := by
  induction l with
  | nil => rfl
  | cons a l ih => unfold anyNZ at ih ⊢; rw [List.all_cons, List.any_cons, ih]; by_cases h : a = 0 <;> simp [h]
theorem contains_drop (g M : Nat) (l : List Int) (w : World) (hM : M < 4) (h : Ints w (some ⟨g, 0, none⟩) 4 l) : Calls Try.prog 65 #[.slice (some ⟨g, M, none⟩) (4 - M) (4 - M), .func (.func 67) #[] #[]] w fun e w' => e = .returned (.bool (anyNZ (l.drop M))) ∧ w = w' :=
  containsnz_any _ _ _ _ w (h.drop M hM) (by omega)
theorem contains_end (g : Nat) (l : List Int) (w : World) (h : Ints w (some ⟨g, 0, none⟩) 4 l) : Calls Try.prog 65 #[.slice (some ⟨g, 0, none⟩) 0 0, .func (.func 67) #[] #[]] w fun e w' => e = .returned (.bool (anyNZ (l.drop 4))) ∧ w = w' := by
  rw [List.drop_of_length_le (by rw [h.1]; omega)]
  exact containsnz_any _ _ _ _ w ⟨rfl, rfl, fun h => absurd h (by omega)⟩ (by omega)

def BoxesCheck (w : World) (ok : Int) (oi : Int) (ona : Int) (onb : Int) (onc : Int) (ond : Int) (ow : Int) (oh : Int) (_ol : List Px) (oA : Option Addr) (on oc : Nat) (W : World) : Prop := W.cell? ⟨w.heap.size, 0, none⟩ = some (.int .i64 ok) ∧ W.cell? ⟨w.heap.size, 1, none⟩ = some (.int .i64 oi) ∧ W.cell? ⟨w.heap.size, 2, none⟩ = some (.int .i64 ona) ∧ W.cell? ⟨w.heap.size, 3, none⟩ = some (.int .i64 onb) ∧ W.cell? ⟨w.heap.size, 4, none⟩ = some (.int .i64 onc) ∧ W.cell? ⟨w.heap.size, 5, none⟩ = some (.int .i64 ond) ∧ W.cell? ⟨w.heap.size, 6, none⟩ = some (.int .i64 ow) ∧ W.cell? ⟨w.heap.size, 7, none⟩ = some (.int .i64 oh) ∧ W.cell? ⟨w.heap.size, 8, none⟩ = some (.slice oA on oc)
theorem kc_Check {w w' : World} {B : Nat} (hb : Below B w w') {b o : Nat} {v : Value} (h : b < B) (hc : w.cell? ⟨b, o, none⟩ = some v) : w'.cell? ⟨b, o, none⟩ = some v := (hb.cell (p := ⟨b, o, none⟩) h).trans hc
theorem BoxesCheck.below {w W W' : World} {ok : Int} {oi : Int} {ona : Int} {onb : Int} {onc : Int} {ond : Int} {ow : Int} {oh : Int} {ol : List Px} {oA : Option Addr} {on oc : Nat} (h : BoxesCheck w ok oi ona onb onc ond ow oh ol oA on oc W) (hb : Below W.heap.size W W') (hs : w.heap.size + 1 ≤ W.heap.size) : BoxesCheck w ok oi ona onb onc ond ow oh ol oA on oc W' := by
  obtain ⟨c0, c1, c2, c3, c4, c5, c6, c7, c8⟩ := h
  exact ⟨kc_Check hb (by omega) c0, kc_Check hb (by omega) c1, kc_Check hb (by omega) c2, kc_Check hb (by omega) c3, kc_Check hb (by omega) c4, kc_Check hb (by omega) c5, kc_Check hb (by omega) c6, kc_Check hb (by omega) c7, kc_Check hb (by omega) c8⟩
set_option maxRecDepth 100000 in
set_option maxHeartbeats 4000000 in
theorem opcheck_walk (ok : Int) (oi : Int) (ona : Int) (onb : Int) (onc : Int) (ond : Int) (ow : Int) (oh : Int) (ol : List Px) (oA : Option Addr) (on oc : Nat) (w : World)  (h_o : Pixs w oA on ol) (h1 : 1 ≤ ok) (h2 : ok ≤ 16) (hn : on ≤ 100):
    Calls Try.prog 49 #[.agg #[.int .i64 ok, .int .i64 oi, .int .i64 ona, .int .i64 onb, .int .i64 onc, .int .i64 ond, .int .i64 ow, .int .i64 oh, .slice oA on oc]] w (Ret (errV (opFault ⟨ok, oi, ona, onb, onc, ond, ⟨ow, oh, ol⟩⟩)) w) := by
  have H_o := hid h_o
  clear h_o
  have h1' : ¬ ok < 1 := by omega
  have h2' : ¬ 16 < ok := by omega
  have HL := hid H_o.out.1
  go_enter Try.func49, Try.ntmps49
  go_upto_region 1 with fail
  obtain ⟨W0, hW0⟩ : ∃ W0, W0 = (w.alloc (.cells #[.int .i64 ok, .int .i64 oi, .int .i64 ona, .int .i64 onb, .int .i64 onc, .int .i64 ond, .int .i64 ow, .int .i64 oh, .slice oA on oc] 51)) := ⟨_, rfl⟩
  have hB0 : Below w.heap.size w W0 := by rw [hW0]; exact (Below.refl w.heap.size w).alloc (by simp; try omega) _
  have z0 : w.heap.size + 1 ≤ W0.heap.size := by rw [hW0]; simp
  have CE0 : BoxesCheck w ok oi ona onb onc ond ow oh ol oA on oc W0 := by rw [hW0]; refine ⟨?_, ?_, ?_, ?_, ?_, ?_, ?_, ?_, ?_⟩ <;> go_simp
  rw [← hW0]
  clear hW0
  have CEH := hid CE0
  clear CE0
  have CE0 := CEH
  clear CEH
  obtain ⟨c0, c1, c2, c3, c4, c5, c6, c7, c8⟩ := CE0.out
  go_wp2_with fail
  refine (ophas_any ok _ h1 h2).mono ?_
  rintro e w1 ⟨rfl, hb⟩
  clear c0 c1 c2 c3 c4 c5 c6 c7 c8
  have CE1 := hid (CE0.out.below hb z0)
  have hB1 : Below w.heap.size w w1 := bnext hB0 hb
  have z1 : w.heap.size + 1 ≤ w1.heap.size := Nat.le_trans z0 hb.size
  unfold hasV
  clear hb hB0 z0 CE0
  obtain ⟨c0, c1, c2, c3, c4, c5, c6, c7, c8⟩ := CE1.out
  obtain ⟨I, hI⟩ : ∃ X, hasId ok = X := ⟨_, rfl⟩
  obtain ⟨M, hM⟩ : ∃ X, manyN ok = X := ⟨_, rfl⟩
  obtain ⟨P, hP⟩ : ∃ X, hasPic ok = X := ⟨_, rfl⟩
  have hM4 := manyN_le ok
  simp only [hI, hM, hP]
  rw [hM] at hM4
  obtain ⟨F, hF⟩ : ∃ X, anyNZ ([ona, onb, onc, ond].drop M) = X := ⟨_, rfl⟩
  have hs : shapeB ⟨ok, oi, ona, onb, onc, ond, ⟨ow, oh, ol⟩⟩ = ((I || decide (oi = 0)) && (!F && (P || decide (ow = 0 ∧ oh = 0 ∧ on = 0)))) := by
    unfold shapeB opNums picEmpty
    simp only [hI, hP, hM, anyNZ_all, hF, HL.out]
  have HI := hid hI
  have HF := hid hF
  have HP := hid hP
  have HS := hid hs
  clear hI hM hP hF hs
  have m0 : (0 : Int) ≤ (M : Int) := by omega
  have m4 : (M : Int) ≤ 4 := by omega
  go_upto_region 4 with fail
  go_cut [58] (fun t wi => t = .bool (!shapeB ⟨ok, oi, ona, onb, onc, ond, ⟨ow, oh, ol⟩⟩) ∧ Below w1.heap.size w1 wi)
  case first =>
    cases I
    case true =>
      go_wp2_with fail
      refine (numbers_any _ _ _ _ _ _ _ _ _ _ _ _).mono ?_
      rintro e w2 ⟨g, rfl, hI4, hb⟩
      have CE2 := CE1.out.below hb z1
      clear c0 c1 c2 c3 c4 c5 c6 c7 c8
      obtain ⟨c0, c1, c2, c3, c4, c5, c6, c7, c8⟩ := CE2
      have HI4 := hid hI4
      have HBB := hid hb
      clear hI4 hb
      by_cases hM3 : M < 4
      · have hx := hid hM3
        go_wp2_with fail
        refine (contains_drop g M _ w2 hM3 HI4.out).mono ?_
        rintro e w' ⟨rfl, rfl⟩
        rw [HF.out]
        cases F
        case true => (go_wp2_with fail; go_meet; exact ⟨congrArg Value.bool (by rw [HS.out]; simp), HBB.out⟩)
        cases P
        case true => (go_wp2_with fail; go_meet; exact ⟨congrArg Value.bool (by rw [HS.out]; simp), HBB.out⟩)
        by_cases q1 : ow ≠ 0
        · have q1' : (ow != 0) = true := by simp [q1]
          (go_wp2_with fail); go_meet
          exact ⟨congrArg Value.bool (by rw [HS.out]; simp [q1]), HBB.out⟩
        obtain rfl : ow = 0 := Decidable.not_not.1 q1
        by_cases q2 : oh ≠ 0
        · have q2' : (oh != 0) = true := by simp [q2]
          (go_wp2_with fail); go_meet
          exact ⟨congrArg Value.bool (by rw [HS.out]; simp [q2]), HBB.out⟩
        obtain rfl : oh = 0 := Decidable.not_not.1 q2
        by_cases q3 : on = 0
        · subst q3
          (go_wp2_with fail); go_meet
          exact ⟨congrArg Value.bool (by rw [HS.out]; simp), HBB.out⟩
        have q4 : (0 : Int) < (on : Int) := by omega
        go_wp2_with fail
        go_meet
        exact ⟨congrArg Value.bool (by rw [HS.out]; simp [q3]; omega), HBB.out⟩
      · obtain rfl : M = 4 := by omega
        go_wp2_with fail
        refine (contains_end g _ w2 HI4.out).mono ?_
        rintro e w' ⟨rfl, rfl⟩
        rw [HF.out]
        cases F
        case true => (go_wp2_with fail; go_meet; exact ⟨congrArg Value.bool (by rw [HS.out]; simp), HBB.out⟩)
        cases P
        case true => (go_wp2_with fail; go_meet; exact ⟨congrArg Value.bool (by rw [HS.out]; simp), HBB.out⟩)
        by_cases q1 : ow ≠ 0
        · have q1' : (ow != 0) = true := by simp [q1]
          (go_wp2_with fail); go_meet
          exact ⟨congrArg Value.bool (by rw [HS.out]; simp [q1]), HBB.out⟩
        obtain rfl : ow = 0 := Decidable.not_not.1 q1
        by_cases q2 : oh ≠ 0
        · have q2' : (oh != 0) = true := by simp [q2]
          (go_wp2_with fail); go_meet
          exact ⟨congrArg Value.bool (by rw [HS.out]; simp [q2]), HBB.out⟩
        obtain rfl : oh = 0 := Decidable.not_not.1 q2
        by_cases q3 : on = 0
        · subst q3
          (go_wp2_with fail); go_meet
          exact ⟨congrArg Value.bool (by rw [HS.out]; simp), HBB.out⟩
        have q4 : (0 : Int) < (on : Int) := by omega
        go_wp2_with fail
        go_meet
        exact ⟨congrArg Value.bool (by rw [HS.out]; simp [q3]; omega), HBB.out⟩
    case false =>
      by_cases hi : oi ≠ 0
      · have hi' : (oi != 0) = true := by simp [hi]
        go_wp2_with fail
        go_meet
        exact ⟨congrArg Value.bool (by rw [HS.out]; simp [hi]), Below.refl _ _⟩
      obtain rfl : oi = 0 := Decidable.not_not.1 hi
      clear hi
      go_wp2_with fail
      refine (numbers_any _ _ _ _ _ _ _ _ _ _ _ _).mono ?_
      rintro e w2 ⟨g, rfl, hI4, hb⟩
      have CE2 := CE1.out.below hb z1
      clear c0 c1 c2 c3 c4 c5 c6 c7 c8
      obtain ⟨c0, c1, c2, c3, c4, c5, c6, c7, c8⟩ := CE2
      have HI4 := hid hI4
      have HBB := hid hb
      clear hI4 hb
      by_cases hM3 : M < 4
      · have hx := hid hM3
        go_wp2_with fail
        refine (contains_drop g M _ w2 hM3 HI4.out).mono ?_
        rintro e w' ⟨rfl, rfl⟩
        rw [HF.out]
        cases F
        case true => (go_wp2_with fail; go_meet; exact ⟨congrArg Value.bool (by rw [HS.out]; simp), HBB.out⟩)
        cases P
        case true => (go_wp2_with fail; go_meet; exact ⟨congrArg Value.bool (by rw [HS.out]; simp), HBB.out⟩)
        by_cases q1 : ow ≠ 0
        · have q1' : (ow != 0) = true := by simp [q1]
          (go_wp2_with fail); go_meet
          exact ⟨congrArg Value.bool (by rw [HS.out]; simp [q1]), HBB.out⟩
        obtain rfl : ow = 0 := Decidable.not_not.1 q1
        by_cases q2 : oh ≠ 0
        · have q2' : (oh != 0) = true := by simp [q2]
          (go_wp2_with fail); go_meet
          exact ⟨congrArg Value.bool (by rw [HS.out]; simp [q2]), HBB.out⟩
        obtain rfl : oh = 0 := Decidable.not_not.1 q2
        by_cases q3 : on = 0
        · subst q3
          (go_wp2_with fail); go_meet
          exact ⟨congrArg Value.bool (by rw [HS.out]; simp), HBB.out⟩
        have q4 : (0 : Int) < (on : Int) := by omega
        go_wp2_with fail
        go_meet
        exact ⟨congrArg Value.bool (by rw [HS.out]; simp [q3]; omega), HBB.out⟩
      · obtain rfl : M = 4 := by omega
        go_wp2_with fail
        refine (contains_end g _ w2 HI4.out).mono ?_
        rintro e w' ⟨rfl, rfl⟩
        rw [HF.out]
        cases F
        case true => (go_wp2_with fail; go_meet; exact ⟨congrArg Value.bool (by rw [HS.out]; simp), HBB.out⟩)
        cases P
        case true => (go_wp2_with fail; go_meet; exact ⟨congrArg Value.bool (by rw [HS.out]; simp), HBB.out⟩)
        by_cases q1 : ow ≠ 0
        · have q1' : (ow != 0) = true := by simp [q1]
          (go_wp2_with fail); go_meet
          exact ⟨congrArg Value.bool (by rw [HS.out]; simp [q1]), HBB.out⟩
        obtain rfl : ow = 0 := Decidable.not_not.1 q1
        by_cases q2 : oh ≠ 0
        · have q2' : (oh != 0) = true := by simp [q2]
          (go_wp2_with fail); go_meet
          exact ⟨congrArg Value.bool (by rw [HS.out]; simp [q2]), HBB.out⟩
        obtain rfl : oh = 0 := Decidable.not_not.1 q2
        by_cases q3 : on = 0
        · subst q3
          (go_wp2_with fail); go_meet
          exact ⟨congrArg Value.bool (by rw [HS.out]; simp), HBB.out⟩
        have q4 : (0 : Int) < (on : Int) := by omega
        go_wp2_with fail
        go_meet
        exact ⟨congrArg Value.bool (by rw [HS.out]; simp [q3]; omega), HBB.out⟩
  case rest =>
    obtain ⟨rfl, hb⟩ := hcut
    obtain ⟨w2, rfl⟩ : ∃ x : World, x = wc := ⟨_, rfl⟩
    clear c0 c1 c2 c3 c4 c5 c6 c7 c8
    have CE2 := hid (CE1.out.below hb z1)
    have hB2 : Below w.heap.size w w2 := bnext hB1 hb
    have z2 : w.heap.size + 1 ≤ w2.heap.size := Nat.le_trans z1 hb.size
    clear hb hB1 z1 CE1
    obtain ⟨c0, c1, c2, c3, c4, c5, c6, c7, c8⟩ := CE2.out
    obtain ⟨S, hS⟩ : ∃ X, shapeB ⟨ok, oi, ona, onb, onc, ond, ⟨ow, oh, ol⟩⟩ = X := ⟨_, rfl⟩
    rw [hS]
    cases S
    case false =>
      have hr := opFault_shape (o := ⟨ok, oi, ona, onb, onc, ond, ⟨ow, oh, ol⟩⟩) ⟨h1, h2⟩ hS
      clear hS
      go_wp2_with fail
      go_ret
      exact ⟨ret_err hr (by decide), hB2⟩
    have HSS := hid hS
    clear hS
    obtain ⟨B, hB⟩ : ∃ X, boundB ⟨ok, oi, ona, onb, onc, ond, ⟨ow, oh, ol⟩⟩ = X := ⟨_, rfl⟩
    have HB := hid hB
    clear hB
    obtain ⟨E, hE⟩ : ∃ X, (if I then inB oi 1 6 else true) = X := ⟨_, rfl⟩
    have hg : ((!hasId ok || inB oi 1 6) && boundB ⟨ok, oi, ona, onb, onc, ond, ⟨ow, oh, ol⟩⟩) = (E && B) := by
      rw [HI.out, HB.out, ← hE]; cases I <;> rfl
    have HG := hid hg
    clear hg
    go_upto_region 6 with fail
    go_cut [71] (fun t wi => t = .bool (!(E && B)) ∧ Below w2.heap.size w2 wi)
    case first =>
      have hbd := fun W => bound_any ⟨⟨ok, oi, ona, onb, onc, ond, ⟨ow, oh, ol⟩⟩, oA, on, oc⟩ W h1 h2
      simp only [HB.out] at hbd
      unfold opV at hbd
      cases I
      case false =>
        subst hE
        go_wp2_with fail
        refine (hbd _).mono ?_
        rintro e w' ⟨rfl, hb⟩
        go_wp2_with fail
        go_meet
        exact ⟨congrArg Value.bool (by simp), hb⟩
      case true =>
        rw [if_pos rfl] at hE
        cases E
        case false =>
          go_wp2_with (go_at_call 68; refine (within_any _ _ _ _).mono ?_; rintro e w' ⟨rfl, rfl⟩; rw [hE])
          go_meet
          exact ⟨congrArg Value.bool (by simp), Below.refl _ _⟩
        case true =>
          go_wp2_with (go_at_call 68; refine (within_any _ _ _ _).mono ?_; rintro e w' ⟨rfl, rfl⟩; rw [hE])
          refine (hbd _).mono ?_
          rintro e w' ⟨rfl, hb⟩
          go_wp2_with fail
          go_meet
          exact ⟨congrArg Value.bool (by simp), hb⟩
    case rest =>
      obtain ⟨rfl, hb⟩ := hcut
      obtain ⟨w3, rfl⟩ : ∃ x : World, x = wc := ⟨_, rfl⟩
      have CE3 := hid (CE2.out.below hb z2)
      have hB3 := bnext hB2 hb
      clear c0 c1 c2 c3 c4 c5 c6 c7 c8 hb hE
      obtain ⟨c0, c1, c2, c3, c4, c5, c6, c7, c8⟩ := CE3.out
      obtain ⟨G, hG⟩ : ∃ X, (E && B) = X := ⟨_, rfl⟩
      rw [hG]
      cases G
      case false =>
        have hr := opFault_bound (o := ⟨ok, oi, ona, onb, onc, ond, ⟨ow, oh, ol⟩⟩) ⟨h1, h2⟩ HSS.out (HG.out.trans hG)
        clear hG
        go_wp2_with fail
        go_ret
        exact ⟨ret_err hr (by decide), hB3⟩
      have HG2 := hid (HG.out.trans hG)
      clear hG
      cases P
      case false =>
        have hr := opFault_none (o := ⟨ok, oi, ona, onb, onc, ond, ⟨ow, oh, ol⟩⟩) ⟨h1, h2⟩ HSS.out HG2.out HP.out
        go_wp2_with fail
        go_ret
        exact ⟨ret_err0 hr, hB3⟩
      case true =>
        have hr := hid (opFault_pic (o := ⟨ok, oi, ona, onb, onc, ond, ⟨ow, oh, ol⟩⟩) ⟨h1, h2⟩ HSS.out HG2.out HP.out)
        go_wp2_with fail
        refine (piccheck_any ⟨⟨ow, oh, ol⟩, oA, on, oc⟩ _ (H_o.out.below hB3) hn).mono ?_
        rintro e w4 ⟨rfl, hb⟩
        go_wp2_with fail
        go_ret
        exact ⟨by rw [hr.out]; rfl, bnext hB3 hb⟩
set_option maxRecDepth 100000 in
set_option maxHeartbeats 400000 in
/-- op.Check: what is wrong with it? -/
theorem opcheck_any (r : FAt FOp) (w : World) (hl : Pixs w r.A r.n r.x.pic.p) (hn : r.n ≤ 100) : Calls Try.prog 49 #[opV r] w (Ret (errV (opFault r.x)) w) := by
  obtain ⟨⟨k, i, a, b, c, d, ⟨pw, ph, pl⟩⟩, A, n, cp⟩ := r
  simp only at hl hn ⊢
  unfold opV
  by_cases hk : 1 ≤ k ∧ k ≤ 16
  · exact opcheck_walk k i a b c d pw ph pl A n cp w hl hk.1 hk.2 hn
  · have hr := hid (opFault_kind (o := ⟨k, i, a, b, c, d, ⟨pw, ph, pl⟩⟩) hk)
    clear hl
    by_cases h1 : k < 1
    · clear hk
      go_enter Try.func49, Try.ntmps49
      go_wp2_with fail
      go_ret
      exact ⟨ret_err hr.out (by decide), by (repeat (first | with_reducible exact Below.refl _ _ | with_reducible refine Below.alloc ?_ (by first | omega | (simp; done) | (simp; omega)) _ | with_reducible refine below_drewN ?_ _ | with_reducible refine Below.drew ?_))⟩
    · have h2 : 16 < k := by omega
      clear hk
      go_enter Try.func49, Try.ntmps49
      go_wp2_with fail
      go_ret
      exact ⟨ret_err hr.out (by decide), by (repeat (first | with_reducible exact Below.refl _ _ | with_reducible refine Below.alloc ?_ (by first | omega | (simp; done) | (simp; omega)) _ | with_reducible refine below_drewN ?_ _ | with_reducible refine Below.drew ?_))⟩
end Fb
