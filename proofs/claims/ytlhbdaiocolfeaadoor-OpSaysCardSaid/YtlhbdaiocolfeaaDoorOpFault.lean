/- ref.OpFault: it returns what the plain law of ops says. Conditions: the pixels lie where the picture says, and are few. -/
import Derived.Test.YtlhbdaiocolfeaaDoorOpCheck
import Derived.Test.YtlhbdaiocolfeaaDoorOpLaw2
import Derived.Test.YtlhbdaiocolfeaaDoorPicFault
import Derived.Test.YtlhbdaiocolfeaaDoorBlend
set_option linter.unusedSimpArgs false
set_option linter.unusedVariables false
namespace Fb
open Go Go.Proofs Go.RowKit Go.Sort
theorem lows_len (k : Int) : (lows k).length = 4 := by unfold lows; (repeat' split) <;> rfl
theorem highs_len (k : Int) : (highs k).length = 4 := by unfold highs; (repeat' split) <;> rfl
theorem rparts_ret (k : Int) (w : World) (h1 : 1 ≤ k) (h2 : k ≤ 16) : Calls Tryd.prog 31 #[.int .i64 k] w (Ret (hasV k) w) :=
  (rparts_any k w h1 h2).mono fun _ _ h => ⟨h.1, h.2 ▸ Below.refl _ _⟩
theorem ints_new (w : World) (a b c d : Int) (t : TypeId) : Ints (w.alloc (.cells #[.int .i64 a, .int .i64 b, .int .i64 c, .int .i64 d] t)) (some ⟨w.heap.size, 0, none⟩) 4 [a, b, c, d] := by
  refine ⟨rfl, rfl, fun _ => ⟨w.heap.size, 0, rfl, by simp, fun j u hu => ?_⟩⟩
  match j, hu with
  | 0, hu => simp at hu; subst hu; simp
  | 1, hu => simp at hu; subst hu; simp
  | 2, hu => simp at hu; subst hu; simp
  | 3, hu => simp at hu; subst hu; simp
theorem opGetD_at {l : List Int} {k : Nat} (h : k < l.length) : l.getD k 0 = l[k] := by rw [List.getD_eq_getElem?_getD, List.getElem?_eq_getElem h]; rfl
theorem ints_of {w : World} {g : Nat} {a b c d : Int} (hg : g < w.heap.size) (h0 : w.cell? ⟨g, 0, none⟩ = some (.int .i64 a)) (h1 : w.cell? ⟨g, 1, none⟩ = some (.int .i64 b)) (h2 : w.cell? ⟨g, 2, none⟩ = some (.int .i64 c)) (h3 : w.cell? ⟨g, 3, none⟩ = some (.int .i64 d)) : Ints w (some ⟨g, 0, none⟩) 4 [a, b, c, d] := by
  refine ⟨rfl, rfl, fun _ => ⟨g, 0, rfl, hg, fun j u hu => ?_⟩⟩
  match j, hu with
  | 0, hu => simp at hu; subst hu; exact h0
  | 1, hu => simp at hu; subst hu; exact h1
  | 2, hu => simp at hu; subst hu; exact h2
  | 3, hu => simp at hu; subst hu; exact h3
theorem Ints.at0 {w : World} {g n k : Nat} {l : List Int} (h : Ints w (some ⟨g, 0, none⟩) n l) (hk : k < l.length) : g < w.heap.size ∧ w.cell? ⟨g, k, none⟩ = some (.int .i64 l[k]) := by
  obtain ⟨b, off, e, hb, hc⟩ := h.cell hk
  obtain ⟨rfl, rfl⟩ : b = g ∧ off = 0 := by simp at e; omega
  rw [Nat.zero_add] at hc
  exact ⟨hb, hc⟩
theorem anyNZ_hit {l : List Int} {M k : Nat} (hk : k < l.length) (hM : M ≤ k) (hn : l[k] ≠ 0) : anyNZ (l.drop M) = true := by
  unfold anyNZ
  rw [List.any_eq_true]
  refine ⟨l[k], ?_, by simpa using hn⟩
  rw [List.mem_iff_getElem]
  exact ⟨k - M, by rw [List.length_drop]; omega, by rw [List.getElem_drop]; congr 1; omega⟩
theorem anyNZ_none {l : List Int} {M : Nat} (h : ∀ j (hj : j < l.length), M ≤ j → l[j] = 0) : anyNZ (l.drop M) = false := by
  unfold anyNZ
  rw [List.any_eq_false]
  intro x hx
  rw [List.mem_iff_getElem] at hx
  obtain ⟨i, hi, rfl⟩ := hx
  rw [List.getElem_drop]
  simp [h (M + i) (by rw [List.length_drop] at hi; omega) (by omega)]

def BoxesOpFault (w : World) (ok : Int) (oi : Int) (ona : Int) (onb : Int) (onc : Int) (ond : Int) (ow : Int) (oh : Int) (_ol : List Px) (oA : Option Addr) (on oc : Nat) (W : World) : Prop := W.cell? ⟨w.heap.size, 0, none⟩ = some (.int .i64 ok) ∧ W.cell? ⟨w.heap.size, 1, none⟩ = some (.int .i64 oi) ∧ W.cell? ⟨w.heap.size, 2, none⟩ = some (.int .i64 ona) ∧ W.cell? ⟨w.heap.size, 3, none⟩ = some (.int .i64 onb) ∧ W.cell? ⟨w.heap.size, 4, none⟩ = some (.int .i64 onc) ∧ W.cell? ⟨w.heap.size, 5, none⟩ = some (.int .i64 ond) ∧ W.cell? ⟨w.heap.size, 6, none⟩ = some (.int .i64 ow) ∧ W.cell? ⟨w.heap.size, 7, none⟩ = some (.int .i64 oh) ∧ W.cell? ⟨w.heap.size, 8, none⟩ = some (.slice oA on oc)
theorem kc_OpFault {w w' : World} {B : Nat} (hb : Below B w w') {b o : Nat} {v : Value} (h : b < B) (hc : w.cell? ⟨b, o, none⟩ = some v) : w'.cell? ⟨b, o, none⟩ = some v := (hb.cell (p := ⟨b, o, none⟩) h).trans hc
theorem BoxesOpFault.below {w W W' : World} {ok : Int} {oi : Int} {ona : Int} {onb : Int} {onc : Int} {ond : Int} {ow : Int} {oh : Int} {ol : List Px} {oA : Option Addr} {on oc : Nat} (h : BoxesOpFault w ok oi ona onb onc ond ow oh ol oA on oc W) (hb : Below W.heap.size W W') (hs : w.heap.size + 1 ≤ W.heap.size) : BoxesOpFault w ok oi ona onb onc ond ow oh ol oA on oc W' := by
  obtain ⟨c0, c1, c2, c3, c4, c5, c6, c7, c8⟩ := h
  exact ⟨kc_OpFault hb (by omega) c0, kc_OpFault hb (by omega) c1, kc_OpFault hb (by omega) c2, kc_OpFault hb (by omega) c3, kc_OpFault hb (by omega) c4, kc_OpFault hb (by omega) c5, kc_OpFault hb (by omega) c6, kc_OpFault hb (by omega) c7, kc_OpFault hb (by omega) c8⟩
set_option maxRecDepth 100000 in
set_option maxHeartbeats 16000000 in
theorem ropfault_walk (ok : Int) (oi : Int) (ona : Int) (onb : Int) (onc : Int) (ond : Int) (ow : Int) (oh : Int) (ol : List Px) (oA : Option Addr) (on oc : Nat) (w : World)  (h_o : Pixs w oA on ol) (h1 : 1 ≤ ok) (h2 : ok ≤ 16) (hn : on ≤ 100):
    Calls Tryd.prog 14 #[.agg #[.int .i64 ok, .int .i64 oi, .int .i64 ona, .int .i64 onb, .int .i64 onc, .int .i64 ond, .int .i64 ow, .int .i64 oh, .slice oA on oc]] w (Ret (.int .i64 (opFault ⟨ok, oi, ona, onb, onc, ond, ⟨ow, oh, ol⟩⟩)) w) := by
  have H_o := hid h_o
  clear h_o
  have h1' : ¬ ok < 1 := by omega
  have h2' : ¬ 16 < ok := by omega
  have HL := hid H_o.out.1
  go_enter Tryd.func14, Tryd.ntmps14
  go_upto_region 1 with fail
  obtain ⟨W0, hW0⟩ : ∃ W0, W0 = (w.alloc (.cells #[.int .i64 ok, .int .i64 oi, .int .i64 ona, .int .i64 onb, .int .i64 onc, .int .i64 ond, .int .i64 ow, .int .i64 oh, .slice oA on oc] 26)) := ⟨_, rfl⟩
  have hB0 : Below w.heap.size w W0 := by rw [hW0]; exact (Below.refl w.heap.size w).alloc (by simp; try omega) _
  have z0 : w.heap.size + 1 ≤ W0.heap.size := by rw [hW0]; simp
  have CE0 : BoxesOpFault w ok oi ona onb onc ond ow oh ol oA on oc W0 := by rw [hW0]; refine ⟨?_, ?_, ?_, ?_, ?_, ?_, ?_, ?_, ?_⟩ <;> go_simp
  rw [← hW0]
  clear hW0
  have CEH := hid CE0
  clear CE0
  have CE0 := CEH
  clear CEH
  obtain ⟨c0, c1, c2, c3, c4, c5, c6, c7, c8⟩ := CE0.out
  go_wp2_with fail
  refine (rparts_ret ok _ h1 h2).mono ?_
  rintro e w1 ⟨rfl, hb⟩
  clear c0 c1 c2 c3 c4 c5 c6 c7 c8
  have CE1 := hid (CE0.out.below hb z0)
  have hB1 : Below w.heap.size w w1 := bnext hB0 hb
  have z1 : w.heap.size + 1 ≤ w1.heap.size := Nat.le_trans z0 hb.size
  unfold hasV
  clear hb hB0 z0 CE0
  obtain ⟨c0, c1, c2, c3, c4, c5, c6, c7, c8⟩ := CE1.out
  obtain ⟨I, hI⟩ : ∃ X, hasId ok = X := ⟨_, rfl⟩
  obtain ⟨M, hM⟩ : ∃ X, manyN ok = X := ⟨_, rfl⟩
  obtain ⟨P, hP⟩ : ∃ X, hasPic ok = X := ⟨_, rfl⟩
  have hM4 := manyN_le ok
  simp only [hI, hM, hP]
  rw [hM] at hM4
  have hs : shapeB ⟨ok, oi, ona, onb, onc, ond, ⟨ow, oh, ol⟩⟩ = ((I || decide (oi = 0)) && (!anyNZ ([ona, onb, onc, ond].drop M) && (P || decide (ow = 0 ∧ oh = 0 ∧ on = 0)))) := by
    unfold shapeB opNums picEmpty
    simp only [hI, hP, hM, anyNZ_all, HL.out]
  have HI := hid hI
  have HM := hid hM
  have HP := hid hP
  have HS := hid hs
  clear hI hM hP hs
  go_upto_region 5 with fail
  obtain ⟨W', hW'⟩ : ∃ W', W' = w1.alloc (.cells #[.int .i64 ona, .int .i64 onb, .int .i64 onc, .int .i64 ond] 3) := ⟨_, rfl⟩
  rw [← hW']
  have hb : Below w1.heap.size w1 W' := by rw [hW']; exact (Below.refl _ _).alloc (Nat.le_refl _) _
  have hF : Ints W' (some ⟨w1.heap.size, 0, none⟩) 4 [ona, onb, onc, ond] := by rw [hW']; exact ints_new _ _ _ _ _ _
  clear hW'
  obtain ⟨w2, rfl⟩ : ∃ w : World, w = W' := ⟨_, rfl⟩
  clear c0 c1 c2 c3 c4 c5 c6 c7 c8
  have CE2 := hid (CE1.out.below hb z1)
  have hB2 : Below w.heap.size w w2 := bnext hB1 hb
  have z2 : w.heap.size + 1 ≤ w2.heap.size := Nat.le_trans z1 hb.size
  clear hb hB1 z1 CE1
  obtain ⟨c0, c1, c2, c3, c4, c5, c6, c7, c8⟩ := CE2.out
  obtain ⟨gn, hg⟩ : ∃ g, g = w1.heap.size := ⟨_, rfl⟩
  rw [← hg] at hF ⊢
  clear hg
  have HN := hid (hF)
  clear hF
  obtain ⟨NL, hNL⟩ : ∃ X, X = [ona, onb, onc, ond] := ⟨_, rfl⟩
  have HN4 : Hid (Ints w2 (some ⟨gn, 0, none⟩) 4 NL) := by rw [hNL]; exact HN
  rw [← hNL] at HS
  have HNL := hid hNL
  have Hll : Hid (NL.length = 4) := hid (by rw [hNL]; rfl)
  clear hNL HN
  go_wp2_with fail
  go_loop [7] (fun i => ∃ k : Nat, M ≤ k ∧ k ≤ 4 ∧ i = .int .i64 k ∧ Hid (∀ j (h : j < NL.length), M ≤ j → j < k → NL[j] = 0)) (fun i => 4 - (intOf i).toNat)
  case atStart => exact ⟨M, by omega, hM4, rfl, hid (fun j h hj hj2 => absurd hj2 (by omega))⟩
  case round =>
    obtain ⟨k, hk1, hk2, rfl, hz⟩ := hrel
    by_cases hlt : k < 4
    · have kl : k < NL.length := by rw [Hll.out]; exact hlt
      obtain ⟨hgs, hce⟩ := HN4.out.at0 kl
      have q1 : (0 : Int) ≤ (k : Int) := by omega
      have q2 : (k : Int) < 4 := by omega
      have Hhit := hid (fun h => anyNZ_hit kl hk1 h)
      have Hst := hid (fun h : NL[k] = 0 => fun j (hj : j < NL.length) (hm : M ≤ j) (hj2 : j < k + 1) => (show NL[j] = 0 from by
        by_cases e : j = k
        · subst e; exact h
        · exact hz.out j hj hm (by omega)))
      generalize NL[k] = x at *
      by_cases hx : x = 0
      · have hx' : (x != 0) = false := by simp [hx]
        have Hs := hid (Hst.out hx)
        clear hx Hst Hhit hz
        go_wp2_with fail
        go_round
        case rel => exact ⟨k + 1, by omega, by omega, by go_num, Hs⟩
        case measure => simp [intOf]; omega
      · have hx' : (x != 0) = true := by simp [hx]
        have Hr := hid (opFault_shape (o := ⟨ok, oi, ona, onb, onc, ond, ⟨ow, oh, ol⟩⟩) ⟨h1, h2⟩ (by rw [HS.out, Hhit.out hx]; simp))
        clear hx Hst Hhit hz
        go_wp2_with fail
        go_ret
        exact ⟨by rw [Hr.out]; rfl, hB2⟩
    · have Ha := hid (anyNZ_none (l := NL) (M := M) (fun j hj hm => hz.out j hj hm (by rw [Hll.out] at hj; omega)))
      rw [Ha.out] at HS
      clear hz Ha
      obtain rfl : k = 4 := by omega
      clear hlt hk1 hk2
      go_upto_region 10 with fail
      go_cut [74] (fun t wi => t = .bool (!shapeB ⟨ok, oi, ona, onb, onc, ond, ⟨ow, oh, ol⟩⟩) ∧ w2 = wi)
      case first =>
       as_aux_lemma =>
        cases I
        case true =>
          cases P
          case true => (go_wp2_with fail; go_meet; exact ⟨congrArg Value.bool (by rw [HS.out]; simp), rfl⟩)
          by_cases q1 : ow ≠ 0
          · have q1' : (ow != 0) = true := by simp [q1]
            (go_wp2_with fail); go_meet
            exact ⟨congrArg Value.bool (by rw [HS.out]; simp [q1]), rfl⟩
          obtain rfl : ow = 0 := Decidable.not_not.1 q1
          by_cases q2 : oh ≠ 0
          · have q2' : (oh != 0) = true := by simp [q2]
            (go_wp2_with fail); go_meet
            exact ⟨congrArg Value.bool (by rw [HS.out]; simp [q2]), rfl⟩
          obtain rfl : oh = 0 := Decidable.not_not.1 q2
          by_cases q3 : on = 0
          · subst q3
            (go_wp2_with fail); go_meet
            exact ⟨congrArg Value.bool (by rw [HS.out]; simp), rfl⟩
          have q4 : (0 : Int) < (on : Int) := by omega
          go_wp2_with fail
          go_meet
          exact ⟨congrArg Value.bool (by rw [HS.out]; simp [q3]; omega), rfl⟩
        case false =>
          by_cases hi : oi ≠ 0
          · have hi' : (oi != 0) = true := by simp [hi]
            go_wp2_with fail
            go_meet
            exact ⟨congrArg Value.bool (by rw [HS.out]; simp [hi]), rfl⟩
          obtain rfl : oi = 0 := Decidable.not_not.1 hi
          clear hi
          cases P
          case true => (go_wp2_with fail; go_meet; exact ⟨congrArg Value.bool (by rw [HS.out]; simp), rfl⟩)
          by_cases q1 : ow ≠ 0
          · have q1' : (ow != 0) = true := by simp [q1]
            (go_wp2_with fail); go_meet
            exact ⟨congrArg Value.bool (by rw [HS.out]; simp [q1]), rfl⟩
          obtain rfl : ow = 0 := Decidable.not_not.1 q1
          by_cases q2 : oh ≠ 0
          · have q2' : (oh != 0) = true := by simp [q2]
            (go_wp2_with fail); go_meet
            exact ⟨congrArg Value.bool (by rw [HS.out]; simp [q2]), rfl⟩
          obtain rfl : oh = 0 := Decidable.not_not.1 q2
          by_cases q3 : on = 0
          · subst q3
            (go_wp2_with fail); go_meet
            exact ⟨congrArg Value.bool (by rw [HS.out]; simp), rfl⟩
          have q4 : (0 : Int) < (on : Int) := by omega
          go_wp2_with fail
          go_meet
          exact ⟨congrArg Value.bool (by rw [HS.out]; simp [q3]; omega), rfl⟩
      case rest =>
        obtain ⟨rfl, rfl⟩ := hcut
        obtain ⟨S, hS⟩ : ∃ X, shapeB ⟨ok, oi, ona, onb, onc, ond, ⟨ow, oh, ol⟩⟩ = X := ⟨_, rfl⟩
        rw [hS]
        cases S
        case false =>
          have hr := hid (opFault_shape (o := ⟨ok, oi, ona, onb, onc, ond, ⟨ow, oh, ol⟩⟩) ⟨h1, h2⟩ hS)
          clear hS
          go_wp2_with fail
          go_ret
          exact ⟨by rw [hr.out]; rfl, hB2⟩
        have HSS := hid hS
        clear hS
        obtain ⟨E, hE⟩ : ∃ X, (!I || inB oi 1 6) = X := ⟨_, rfl⟩
        have HE := hid hE
        go_upto_region 12 with fail
        go_cut [85] (fun t wi => t = .bool (!E) ∧ w2 = wi)
        case first =>
         as_aux_lemma =>
          cases I
          case false => (go_wp2_with fail; go_meet; exact ⟨congrArg Value.bool (by rw [← hE]; rfl), rfl⟩)
          by_cases q1 : oi < 1
          · (go_wp2_with fail); go_meet
            exact ⟨congrArg Value.bool (by rw [← hE, inB_lo q1]; rfl), rfl⟩
          by_cases q2 : 6 < oi
          · (go_wp2_with fail); go_meet
            exact ⟨congrArg Value.bool (by rw [← hE, inB_hi q2]; rfl), rfl⟩
          (go_wp2_with fail); go_meet
          exact ⟨congrArg Value.bool (by rw [← hE, inB_in (by omega) (by omega)]; rfl), rfl⟩
        case rest =>
          obtain ⟨rfl, rfl⟩ := hcut
          clear hE
          cases E
          case false =>
            have hr := hid (opFault_bound (o := ⟨ok, oi, ona, onb, onc, ond, ⟨ow, oh, ol⟩⟩) ⟨h1, h2⟩ HSS.out (by show ((!hasId ok || inB oi 1 6) && _) = false; rw [HI.out, HE.out]; rfl))
            go_wp2_with fail
            go_ret
            exact ⟨by rw [hr.out]; rfl, hB2⟩
          have HG2 := hid (show ((!hasId ok || inB oi 1 6) && boundB ⟨ok, oi, ona, onb, onc, ond, ⟨ow, oh, ol⟩⟩) = boundB ⟨ok, oi, ona, onb, onc, ond, ⟨ow, oh, ol⟩⟩ from by rw [HI.out, HE.out]; rfl)
          have hbA : Below w2.heap.size w2 ((w2.alloc (.cells #[.int .i64 0, .int .i64 0, .int .i64 0, .int .i64 0] 3)).alloc (.cells #[.int .i64 0, .int .i64 0, .int .i64 0, .int .i64 0] 3)) := ((Below.refl _ _).alloc (Nat.le_refl _) _).alloc (by simp) _
          have c0A := (hbA.cell (p := ⟨w.heap.size, 0, none⟩) (show w.heap.size < w2.heap.size by omega)).trans c0
          clear hbA
          go_upto_block 2 with fail
          go_cut [8, 9] (fun t u wi => ∃ g8 g9 : Nat, t = .slice (some ⟨g8, 0, none⟩) 4 4 ∧ u = .slice (some ⟨g9, 0, none⟩) 4 4 ∧ Ints wi (some ⟨g8, 0, none⟩) 4 (lows ok) ∧ Ints wi (some ⟨g9, 0, none⟩) 4 (highs ok) ∧ Below w2.heap.size w2 wi)
          case first =>
            clear HS HI HM HP HG2 HE HSS HNL HN4 H_o
            rcases (show ok = 1 ∨ ok = 2 ∨ ok = 3 ∨ ok = 4 ∨ ok = 5 ∨ ok = 6 ∨ ok = 7 ∨ ok = 8 ∨ ok = 9 ∨ ok = 10 ∨ ok = 11 ∨ ok = 12 ∨ ok = 13 ∨ ok = 14 ∨ ok = 15 ∨ ok = 16 by omega) with rfl | rfl | rfl | rfl | rfl | rfl | rfl | rfl | rfl | rfl | rfl | rfl | rfl | rfl | rfl | rfl
            · go_wp2_with fail
              go_meet
              rw [show lows 1 = [1, 1, 0, 0] from rfl, show highs 1 = [8, 8, 0, 0] from rfl]
              refine ⟨_, _, rfl, rfl, ints_of ?_ ?_ ?_ ?_ ?_, ints_of ?_ ?_ ?_ ?_ ?_, ?_⟩
              all_goals (first | (simp; done) | (go_simp; done) | (simp; omega) | ((repeat (first | with_reducible exact Below.refl _ _ | with_reducible refine Below.alloc ?_ (by first | omega | (simp; done) | (simp; omega)) _ | with_reducible refine below_drewN ?_ _ | with_reducible refine Below.drew ?_))))
            · go_wp2_with fail
              go_meet
              rw [show lows 2 = [0, 0, 0, 0] from rfl, show highs 2 = [0, 0, 0, 0] from rfl]
              refine ⟨_, _, rfl, rfl, ints_of ?_ ?_ ?_ ?_ ?_, ints_of ?_ ?_ ?_ ?_ ?_, ?_⟩
              all_goals (first | (simp; done) | (go_simp; done) | (simp; omega) | ((repeat (first | with_reducible exact Below.refl _ _ | with_reducible refine Below.alloc ?_ (by first | omega | (simp; done) | (simp; omega)) _ | with_reducible refine below_drewN ?_ _ | with_reducible refine Below.drew ?_))))
            · go_wp2_with fail
              go_meet
              rw [show lows 3 = [-20, -20, 0, 0] from rfl, show highs 3 = [20, 20, 0, 0] from rfl]
              refine ⟨_, _, rfl, rfl, ints_of ?_ ?_ ?_ ?_ ?_, ints_of ?_ ?_ ?_ ?_ ?_, ?_⟩
              all_goals (first | (simp; done) | (go_simp; done) | (simp; omega) | ((repeat (first | with_reducible exact Below.refl _ _ | with_reducible refine Below.alloc ?_ (by first | omega | (simp; done) | (simp; omega)) _ | with_reducible refine below_drewN ?_ _ | with_reducible refine Below.drew ?_))))
            · go_wp2_with fail
              go_meet
              rw [show lows 4 = [-20, -20, 0, 0] from rfl, show highs 4 = [20, 20, 20, 20] from rfl]
              refine ⟨_, _, rfl, rfl, ints_of ?_ ?_ ?_ ?_ ?_, ints_of ?_ ?_ ?_ ?_ ?_, ?_⟩
              all_goals (first | (simp; done) | (go_simp; done) | (simp; omega) | ((repeat (first | with_reducible exact Below.refl _ _ | with_reducible refine Below.alloc ?_ (by first | omega | (simp; done) | (simp; omega)) _ | with_reducible refine below_drewN ?_ _ | with_reducible refine Below.drew ?_))))
            · go_wp2_with fail
              go_meet
              rw [show lows 5 = [0, 0, 0, 0] from rfl, show highs 5 = [1, 0, 0, 0] from rfl]
              refine ⟨_, _, rfl, rfl, ints_of ?_ ?_ ?_ ?_ ?_, ints_of ?_ ?_ ?_ ?_ ?_, ?_⟩
              all_goals (first | (simp; done) | (go_simp; done) | (simp; omega) | ((repeat (first | with_reducible exact Below.refl _ _ | with_reducible refine Below.alloc ?_ (by first | omega | (simp; done) | (simp; omega)) _ | with_reducible refine below_drewN ?_ _ | with_reducible refine Below.drew ?_))))
            · go_wp2_with fail
              go_meet
              rw [show lows 6 = [1, 0, 0, 0] from rfl, show highs 6 = [6, 0, 0, 0] from rfl]
              refine ⟨_, _, rfl, rfl, ints_of ?_ ?_ ?_ ?_ ?_, ints_of ?_ ?_ ?_ ?_ ?_, ?_⟩
              all_goals (first | (simp; done) | (go_simp; done) | (simp; omega) | ((repeat (first | with_reducible exact Below.refl _ _ | with_reducible refine Below.alloc ?_ (by first | omega | (simp; done) | (simp; omega)) _ | with_reducible refine below_drewN ?_ _ | with_reducible refine Below.drew ?_))))
            · go_wp2_with fail
              go_meet
              rw [show lows 7 = [0, 0, 0, 0] from rfl, show highs 7 = [0, 0, 0, 0] from rfl]
              refine ⟨_, _, rfl, rfl, ints_of ?_ ?_ ?_ ?_ ?_, ints_of ?_ ?_ ?_ ?_ ?_, ?_⟩
              all_goals (first | (simp; done) | (go_simp; done) | (simp; omega) | ((repeat (first | with_reducible exact Below.refl _ _ | with_reducible refine Below.alloc ?_ (by first | omega | (simp; done) | (simp; omega)) _ | with_reducible refine below_drewN ?_ _ | with_reducible refine Below.drew ?_))))
            · go_wp2_with fail
              go_meet
              rw [show lows 8 = [-20, -20, 0, 0] from rfl, show highs 8 = [20, 20, 0, 0] from rfl]
              refine ⟨_, _, rfl, rfl, ints_of ?_ ?_ ?_ ?_ ?_, ints_of ?_ ?_ ?_ ?_ ?_, ?_⟩
              all_goals (first | (simp; done) | (go_simp; done) | (simp; omega) | ((repeat (first | with_reducible exact Below.refl _ _ | with_reducible refine Below.alloc ?_ (by first | omega | (simp; done) | (simp; omega)) _ | with_reducible refine below_drewN ?_ _ | with_reducible refine Below.drew ?_))))
            · go_wp2_with fail
              go_meet
              rw [show lows 9 = [-20, -20, 0, 0] from rfl, show highs 9 = [20, 20, 0, 0] from rfl]
              refine ⟨_, _, rfl, rfl, ints_of ?_ ?_ ?_ ?_ ?_, ints_of ?_ ?_ ?_ ?_ ?_, ?_⟩
              all_goals (first | (simp; done) | (go_simp; done) | (simp; omega) | ((repeat (first | with_reducible exact Below.refl _ _ | with_reducible refine Below.alloc ?_ (by first | omega | (simp; done) | (simp; omega)) _ | with_reducible refine below_drewN ?_ _ | with_reducible refine Below.drew ?_))))
            · go_wp2_with fail
              go_meet
              rw [show lows 10 = [0, 0, 0, 0] from rfl, show highs 10 = [255, 255, 0, 0] from rfl]
              refine ⟨_, _, rfl, rfl, ints_of ?_ ?_ ?_ ?_ ?_, ints_of ?_ ?_ ?_ ?_ ?_, ?_⟩
              all_goals (first | (simp; done) | (go_simp; done) | (simp; omega) | ((repeat (first | with_reducible exact Below.refl _ _ | with_reducible refine Below.alloc ?_ (by first | omega | (simp; done) | (simp; omega)) _ | with_reducible refine below_drewN ?_ _ | with_reducible refine Below.drew ?_))))
            · go_wp2_with fail
              go_meet
              rw [show lows 11 = [0, 0, 0, 0] from rfl, show highs 11 = [99, 0, 0, 0] from rfl]
              refine ⟨_, _, rfl, rfl, ints_of ?_ ?_ ?_ ?_ ?_, ints_of ?_ ?_ ?_ ?_ ?_, ?_⟩
              all_goals (first | (simp; done) | (go_simp; done) | (simp; omega) | ((repeat (first | with_reducible exact Below.refl _ _ | with_reducible refine Below.alloc ?_ (by first | omega | (simp; done) | (simp; omega)) _ | with_reducible refine below_drewN ?_ _ | with_reducible refine Below.drew ?_))))
            · go_wp2_with fail
              go_meet
              rw [show lows 12 = [0, 0, 0, 0] from rfl, show highs 12 = [9, 0, 0, 0] from rfl]
              refine ⟨_, _, rfl, rfl, ints_of ?_ ?_ ?_ ?_ ?_, ints_of ?_ ?_ ?_ ?_ ?_, ?_⟩
              all_goals (first | (simp; done) | (go_simp; done) | (simp; omega) | ((repeat (first | with_reducible exact Below.refl _ _ | with_reducible refine Below.alloc ?_ (by first | omega | (simp; done) | (simp; omega)) _ | with_reducible refine below_drewN ?_ _ | with_reducible refine Below.drew ?_))))
            · go_wp2_with fail
              go_meet
              rw [show lows 13 = [0, 0, 0, 0] from rfl, show highs 13 = [0, 0, 0, 0] from rfl]
              refine ⟨_, _, rfl, rfl, ints_of ?_ ?_ ?_ ?_ ?_, ints_of ?_ ?_ ?_ ?_ ?_, ?_⟩
              all_goals (first | (simp; done) | (go_simp; done) | (simp; omega) | ((repeat (first | with_reducible exact Below.refl _ _ | with_reducible refine Below.alloc ?_ (by first | omega | (simp; done) | (simp; omega)) _ | with_reducible refine below_drewN ?_ _ | with_reducible refine Below.drew ?_))))
            · go_wp2_with fail
              go_meet
              rw [show lows 14 = [0, 0, 0, 0] from rfl, show highs 14 = [0, 0, 0, 0] from rfl]
              refine ⟨_, _, rfl, rfl, ints_of ?_ ?_ ?_ ?_ ?_, ints_of ?_ ?_ ?_ ?_ ?_, ?_⟩
              all_goals (first | (simp; done) | (go_simp; done) | (simp; omega) | ((repeat (first | with_reducible exact Below.refl _ _ | with_reducible refine Below.alloc ?_ (by first | omega | (simp; done) | (simp; omega)) _ | with_reducible refine below_drewN ?_ _ | with_reducible refine Below.drew ?_))))
            · go_wp2_with fail
              go_meet
              rw [show lows 15 = [0, 0, 0, 0] from rfl, show highs 15 = [0, 0, 0, 0] from rfl]
              refine ⟨_, _, rfl, rfl, ints_of ?_ ?_ ?_ ?_ ?_, ints_of ?_ ?_ ?_ ?_ ?_, ?_⟩
              all_goals (first | (simp; done) | (go_simp; done) | (simp; omega) | ((repeat (first | with_reducible exact Below.refl _ _ | with_reducible refine Below.alloc ?_ (by first | omega | (simp; done) | (simp; omega)) _ | with_reducible refine below_drewN ?_ _ | with_reducible refine Below.drew ?_))))
            · go_wp2_with fail
              go_meet
              rw [show lows 16 = [0, 0, 0, 0] from rfl, show highs 16 = [0, 0, 0, 0] from rfl]
              refine ⟨_, _, rfl, rfl, ints_of ?_ ?_ ?_ ?_ ?_, ints_of ?_ ?_ ?_ ?_ ?_, ?_⟩
              all_goals (first | (simp; done) | (go_simp; done) | (simp; omega) | ((repeat (first | with_reducible exact Below.refl _ _ | with_reducible refine Below.alloc ?_ (by first | omega | (simp; done) | (simp; omega)) _ | with_reducible refine below_drewN ?_ _ | with_reducible refine Below.drew ?_))))
          case rest =>
            obtain ⟨g8, g9, rfl, rfl, hL, hH, hb⟩ := hcut
            obtain ⟨w3, rfl⟩ : ∃ x : World, x = wc := ⟨_, rfl⟩
            have CE3 := hid (CE2.out.below hb z2)
            have hB3 := bnext hB2 hb
            have z3 : w.heap.size + 1 ≤ w3.heap.size := Nat.le_trans z2 hb.size
            have HN5 := hid (HN4.out.below hb)
            have HL5 := hid hL
            have HH5 := hid hH
            have hpx := hid (H_o.out.below hB3)
            clear c0 c1 c2 c3 c4 c5 c6 c7 c8 hb hL hH HN4 CE2 hB2
            obtain ⟨c0, c1, c2, c3, c4, c5, c6, c7, c8⟩ := CE3.out
            have Hl8 := hid (show (lows ok).length = 4 from lows_len ok)
            have Hl9 := hid (show (highs ok).length = 4 from highs_len ok)
            have hnl : ∀ j, NL.getD j 0 = (opNums ⟨ok, oi, ona, onb, onc, ond, ⟨ow, oh, ol⟩⟩).getD j 0 := by rw [HNL.out]; exact fun _ => rfl
            have HNLD := hid hnl
            clear hnl HNL
            go_upto_block 3 with fail
            go_wp2_with fail
            go_loopw [10] (fun i wr => ∃ k : Nat, k ≤ M ∧ i = .int .i64 k ∧ Hid (∀ j, j < k → inJ ⟨ok, oi, ona, onb, onc, ond, ⟨ow, oh, ol⟩⟩ j) ∧ Below w3.heap.size w3 wr) (fun i _ => M - (intOf i).toNat)
            case atStart => exact ⟨0, by omega, rfl, hid (fun j hj => absurd hj (by omega)), Below.refl _ _⟩
            case round =>
             as_aux_lemma =>
              obtain ⟨k, hk, rfl, hz, hbel⟩ := hrel
              obtain ⟨wo, rfl⟩ : ∃ x : World, x = wr := ⟨_, rfl⟩
              have CE4 := hid (CE3.out.below hbel z3)
              have hB4 := bnext hB3 hbel
              have HN6 := hid (HN5.out.below hbel)
              have HL6 := hid (HL5.out.below hbel)
              have HH6 := hid (HH5.out.below hbel)
              clear c0 c1 c2 c3 c4 c5 c6 c7 c8
              by_cases hlt : k < M
              · have k1 : k < NL.length := by rw [Hll.out]; omega
                have k2 : k < (lows ok).length := by rw [Hl8.out]; omega
                have k3 : k < (highs ok).length := by rw [Hl9.out]; omega
                obtain ⟨s1, d1⟩ := HN6.out.at0 k1
                obtain ⟨s2, d2⟩ := HL6.out.at0 k2
                obtain ⟨s3, d3⟩ := HH6.out.at0 k3
                have F1 := cell_all2 s1 d1
                have F2 := cell_all2 s2 d2
                have F3 := cell_all2 s3 d3
                have hj : inJ ⟨ok, oi, ona, onb, onc, ond, ⟨ow, oh, ol⟩⟩ k ↔ (lows ok)[k] ≤ NL[k] ∧ NL[k] ≤ (highs ok)[k] := by
                  unfold inJ
                  rw [← HNLD.out, opGetD_at k1]
                  show (lows ok).getD k 0 ≤ _ ∧ _ ≤ (highs ok).getD k 0 ↔ _
                  rw [opGetD_at k2, opGetD_at k3]
                have HJ := hid hj
                clear hj d1 d2 d3 s1 s2 s3
                generalize NL[k] = x at *
                generalize (lows ok)[k] = lo at *
                generalize (highs ok)[k] = hx at *
                clear k1 k2 k3
                have i2 : (0 : Int) ≤ (k : Int) := by omega
                have i3 : (k : Int) < 4 := by omega
                have i4 : (k : Int) < (M : Int) := by omega
                by_cases hin : lo ≤ x ∧ x ≤ hx
                · have hst := hid (fun j (hj2 : j < k + 1) => (show inJ ⟨ok, oi, ona, onb, onc, ond, ⟨ow, oh, ol⟩⟩ j from by
                    by_cases e : j = k
                    · subst e; exact HJ.out.2 hin
                    · exact hz.out j (by omega)))
                  have t1 : decide (x < lo) = false := decide_eq_false (by omega)
                  have t2 : decide (hx < x) = false := decide_eq_false (by omega)
                  clear hin HJ hz
                  go_wp2_with fail
                  refine wp_region_quiet_below (by kernel_rfl) (by kernel_rfl) ?_
                  repeat (go_big_quiet_step (fail))
                  (refine wpQuiet_nil ?_; intro _ hw'; obtain ⟨⟨dq, osq⟩, hw''⟩ := hw'; subst hw'')
                  have hb3 := bnext hbel (below_regrown wo dq osq)
                  clear F1 F2 F3
                  generalize grow (redrawn wo dq) osq = w5 at *
                  go_wp2_with fail
                  go_roundw
                  case rel => exact ⟨k + 1, by omega, by go_num, hst, hb3⟩
                  case measure => simp [intOf]; omega
                · have hbf : boundB ⟨ok, oi, ona, onb, onc, ond, ⟨ow, oh, ol⟩⟩ = false := by
                    cases e : boundB ⟨ok, oi, ona, onb, onc, ond, ⟨ow, oh, ol⟩⟩
                    · rfl
                    · exact absurd (HJ.out.1 ((boundB_iff h1 h2).1 e k (by show k < manyN ok; rw [HM.out]; exact hlt))) hin
                  have hr := hid (opFault_bound (o := ⟨ok, oi, ona, onb, onc, ond, ⟨ow, oh, ol⟩⟩) ⟨h1, h2⟩ HSS.out (HG2.out.trans hbf))
                  clear hbf HJ hz
                  by_cases hlo : x < lo
                  · have t1 : decide (x < lo) = true := decide_eq_true hlo
                    clear hin hlo
                    go_wp2_with fail
                    refine wp_region_quiet_below (by kernel_rfl) (by kernel_rfl) ?_
                    repeat (go_big_quiet_step (fail))
                    (refine wpQuiet_nil ?_; intro _ hw'; obtain ⟨⟨dq, osq⟩, hw''⟩ := hw'; subst hw'')
                    have hb3 := bnext hB4 (below_regrown wo dq osq)
                    generalize grow (redrawn wo dq) osq = w5 at *
                    go_wp2_with fail
                    go_ret
                    exact ⟨by rw [hr.out]; rfl, hb3⟩
                  · have t1 : decide (x < lo) = false := decide_eq_false hlo
                    have t2 : decide (hx < x) = true := decide_eq_true (by omega)
                    clear hin hlo
                    go_wp2_with fail
                    refine wp_region_quiet_below (by kernel_rfl) (by kernel_rfl) ?_
                    repeat (go_big_quiet_step (fail))
                    (refine wpQuiet_nil ?_; intro _ hw'; obtain ⟨⟨dq, osq⟩, hw''⟩ := hw'; subst hw'')
                    have hb3 := bnext hB4 (below_regrown wo dq osq)
                    generalize grow (redrawn wo dq) osq = w5 at *
                    go_wp2_with fail
                    go_ret
                    exact ⟨by rw [hr.out]; rfl, hb3⟩
              · obtain rfl : k = M := by omega
                have hbt : boundB ⟨ok, oi, ona, onb, onc, ond, ⟨ow, oh, ol⟩⟩ = true := (boundB_iff h1 h2).2 (fun j hj => hz.out j (by have e : manyN ok = k := HM.out; rw [← e]; exact hj))
                have HG3 := hid (HG2.out.trans hbt)
                clear hz hbt
                have hpx := hid (H_o.out.below hB4)
                obtain ⟨c0, c1, c2, c3, c4, c5, c6, c7, c8⟩ := CE4.out
                cases P
                case false =>
                  have hr := hid (opFault_none (o := ⟨ok, oi, ona, onb, onc, ond, ⟨ow, oh, ol⟩⟩) ⟨h1, h2⟩ HSS.out HG3.out HP.out)
                  go_wp2_with fail
                  go_ret
                  exact ⟨by rw [hr.out]; rfl, hB4⟩
                case true =>
                  have hr := hid (opFault_pic (o := ⟨ok, oi, ona, onb, onc, ond, ⟨ow, oh, ol⟩⟩) ⟨h1, h2⟩ HSS.out HG3.out HP.out)
                  go_wp2_with fail
                  refine (rpicfault_any ⟨⟨ow, oh, ol⟩, oA, on, oc⟩ _ hpx.out hn).mono ?_
                  rintro e w5 ⟨rfl, hb⟩
                  go_wp2_with fail
                  go_ret
                  exact ⟨by rw [hr.out]; rfl, bnext hB4 hb⟩

set_option maxRecDepth 100000 in
set_option maxHeartbeats 400000 in
/-- ref.OpFault: what is wrong with it? -/
theorem ropfault_any (r : FAt FOp) (w : World) (hl : Pixs w r.A r.n r.x.pic.p) (hn : r.n ≤ 100) : Calls Tryd.prog 14 #[opV r] w (Ret (.int .i64 (opFault r.x)) w) := by
  obtain ⟨⟨k, i, a, b, c, d, ⟨pw, ph, pl⟩⟩, A, n, cp⟩ := r
  simp only at hl hn ⊢
  unfold opV
  by_cases hk : 1 ≤ k ∧ k ≤ 16
  · exact ropfault_walk k i a b c d pw ph pl A n cp w hl hk.1 hk.2 hn
  · have hr := hid (opFault_kind (o := ⟨k, i, a, b, c, d, ⟨pw, ph, pl⟩⟩) hk)
    clear hl
    by_cases h1 : k < 1
    · clear hk
      go_enter Tryd.func14, Tryd.ntmps14
      go_wp2_with fail
      go_ret
      exact ⟨by rw [hr.out]; rfl, by (repeat (first | with_reducible exact Below.refl _ _ | with_reducible refine Below.alloc ?_ (by first | omega | (simp; done) | (simp; omega)) _ | with_reducible refine below_drewN ?_ _ | with_reducible refine Below.drew ?_))⟩
    · have h2 : 16 < k := by omega
      clear hk
      go_enter Tryd.func14, Tryd.ntmps14
      go_wp2_with fail
      go_ret
      exact ⟨by rw [hr.out]; rfl, by (repeat (first | with_reducible exact Below.refl _ _ | with_reducible refine Below.alloc ?_ (by first | omega | (simp; done) | (simp; omega)) _ | with_reducible refine below_drewN ?_ _ | with_reducible refine Below.drew ?_))⟩
end Fb
