/- The reference's PictureBytes returns what the plain law of pictures' bytes says. Condition: few pixels. -/
import Derived.Test.YtinlmikkggnljaaRPicWalk
import Derived.Test.YtinlmikkggnljaaPicBytesW
namespace Fb
open Go Go.Proofs Go.RowKit Go.Sort
attribute [local go_sem ↓] Go.wp_at_zero Go.wp_at_succ
def picBN (p : FPic) : Value := .tuple #[.string (strOf (picB p)), .int .i64 (picFault p)]
theorem picBN_bad {p : FPic} (h : picFault p ≠ 0) : picBN p = .tuple #[.string ⟨#[]⟩, .int .i64 (picFault p)] := by
  unfold picBN picB; rw [if_neg h]; rfl
theorem picBN_ok {p : FPic} (h : picFault p = 0) : picBN p = .tuple #[.string (strOf (picBytes p)), .int .i64 0] := by
  unfold picBN picB; rw [if_pos h, h]; rfl
theorem conv_one (q0 : UInt8) (W : World) (g : Nat) (h0 : W.cell? ⟨g, 0, none⟩ = some (.int .u8 (q0.toNat : Int))) :
    (convert 75 9 (.slice (some ⟨g, 0, none⟩) 1 1)).run Try.prog W = .ok (.string (strOf [q0])) W := by
  refine run_string_row ⟨by simp [byteCells], fun _ => ⟨g, 0, rfl, ?_, fun j u hu => ?_⟩⟩ Try.underlying75 Try.underlying5 Try.underlying9
  · exact World.block_lt_of_cell? W ⟨g, 0, none⟩ h0
  · match j, hu with
    | 0, hu => simp [byteCells] at hu; subst hu; simpa using h0
theorem tail_str (c : UInt8) (T : List UInt8) : (strOf (c :: T)).extract 1 (strOf (c :: T)).size = strOf T := by
  apply ByteArray.ext
  simp [strOf]
  exact List.take_of_length_le (by simp [ByteArray.size])
theorem guess_ret {v : Value} {P : Program} {f : FuncId} {args : Array Value} {w : World} (h : Calls P f args w fun e w' => e = .returned v ∧ w = w') : Calls P f args w (Ret v w) :=
  h.mono fun _ _ h => ⟨h.1, by rw [← h.2]; exact Below.refl _ _⟩
/-- the best of the ways below 'way', as the reference holds it -/
def bestS (X Y : List Int) (n way : Nat) : List UInt8 := if way = 0 then [] else UInt8.ofNat (bestI X Y n (way - 1)).1 :: (bestI X Y n (way - 1)).2
theorem bestS_succ (X Y : List Int) (n way : Nat) : bestS X Y n (way + 1) = UInt8.ofNat (bestI X Y n way).1 :: (bestI X Y n way).2 := by unfold bestS; rw [if_neg (by omega)]; rfl
theorem byte_of {n m : Int} (h : m = n) (h2 : -512 ≤ n) : (m + 512) % 256 = ((byteI n).toNat : Int) := by rw [byteI_nat]; omega
set_option maxRecDepth 100000 in
set_option maxHeartbeats 4000000 in
theorem rpbytes_any (r : FAt FPic) (w : World) (hp : Pixs w r.A r.n r.x.p) (hn : r.n ≤ 100) :
    Calls Try.prog 13 #[.agg #[.int .i64 r.x.w, .int .i64 r.x.h, .slice r.A r.n r.c]] w (Ret (picBN r.x) w) := by
  obtain ⟨⟨pw, ph, l⟩, A, n, c⟩ := r
  simp only at hp hn ⊢
  have HP := hid hp
  clear hp
  go_enter Try.func13, Try.ntmps13
  go_upto_region 1 with fail
  obtain ⟨W0, hW0⟩ : ∃ W0, W0 = w.alloc (.cells #[.int .i64 pw, .int .i64 ph, .slice A n c] 24) := ⟨_, rfl⟩
  have hB0 : Below w.heap.size w W0 := by rw [hW0]; exact (Below.refl w.heap.size w).alloc (Nat.le_refl _) _
  have c0 : W0.cell? ⟨w.heap.size, 0, none⟩ = some (.int .i64 pw) := by rw [hW0]; go_simp
  have c1 : W0.cell? ⟨w.heap.size, 1, none⟩ = some (.int .i64 ph) := by rw [hW0]; go_simp
  have c2 : W0.cell? ⟨w.heap.size, 2, none⟩ = some (.slice A n c) := by rw [hW0]; go_simp
  have z0 : w.heap.size < W0.heap.size := by rw [hW0]; simp
  rw [← hW0]
  clear hW0
  go_wp2_with fail
  refine (rpicfault_any ⟨⟨pw, ph, l⟩, A, n, c⟩ _ (HP.out.below hB0) hn).mono ?_
  rintro e w1 ⟨rfl, hb⟩
  have hB1 := bnext hB0 hb
  have d0 := held_cellP hb z0 c0
  have d1 := held_cellP hb z0 c1
  have d2 := held_cellP hb z0 c2
  have hz1 := hb.size
  clear hb c0 c1 c2
  by_cases hf : picFault ⟨pw, ph, l⟩ = 0
  · have fr := picFault_fine.1 hf
    have hV := hid (picBN_ok hf)
    rw [hf]
    obtain ⟨f1, f2, f3, f4, -, -⟩ := id fr
    simp only at f1 f2 f3 f4
    obtain ⟨P, rfl⟩ : ∃ P : Nat, pw = (P : Int) := ⟨pw.toNat, by omega⟩
    obtain ⟨H, rfl⟩ : ∃ H : Nat, ph = (H : Int) := ⟨ph.toNat, by omega⟩
    have Hfr := hid fr
    have HlPH : Hid (l.length = P * H) := hid (by
      have h5 := fr.2.2.2.2.1
      simp only at h5
      have : ((l.length : Nat) : Int) = ((P * H : Nat) : Int) := by rw [h5]; simp
      omega)
    clear hf fr
    have zz : w.heap.size < w1.heap.size := by omega
    go_wp2_with fail
    go_loopw [5, 6] (fun s i wr => ∃ y : Nat, y ≤ H ∧ i = .int .i64 y ∧ s = .string (strOf (rowsI P l y)) ∧ Below w1.heap.size w1 wr) (fun _ i _ => H - (intOf i).toNat)
    case atStart => exact ⟨0, by omega, rfl, rfl, Below.refl _ _⟩
    case round =>
      obtain ⟨y, hy, rfl, rfl, hbel⟩ := hrel
      have b0 := held_cellP hbel zz d0
      have b1 := held_cellP hbel zz d1
      have b2 := held_cellP hbel zz d2
      have hlR := rowsI_len P l y
      have hyq : y * (1 + 2 * P) ≤ 8 * 17 := Nat.mul_le_mul (by omega) (by omega)
      have hsR : (strOf (rowsI P l y)).size ≤ 200 := by rw [strOf_size, hlR]; omega
      have HlR := hid hlR
      clear hlR
      by_cases hlt : y < H
      · obtain ⟨wo, rfl⟩ : ∃ wo : World, wo = wr := ⟨_, rfl⟩
        have hX : ∀ i : Int, byteL P l (y : Int) i = atI (rowI P l y) i := byteL_row P l y
        have hY : ∀ i : Int, byteL P l ((y : Int) - 1) i = atI (upI P l y) i := byteL_up P l y
        have hPn : ((y : Int) + 1) * (P : Int) ≤ (n : Int) := by
          have h2 : (y + 1) * P ≤ H * P := Nat.mul_le_mul_right _ hlt
          rw [Nat.mul_comm H P, ← HlPH.out, HP.out.1] at h2
          have h3 : (((y + 1) * P : Nat) : Int) ≤ (n : Int) := by omega
          rw [Int.natCast_mul] at h3
          simpa using h3
        have hE : encI P l y = UInt8.ofNat (bestI (rowI P l y) (upI P l y) (2 * P) 3).1 :: (bestI (rowI P l y) (upI P l y) (2 * P) 3).2 := rfl
        have hby1 := rowI_bytes (W := P) (y := y) Hfr.out.2.2.2.2.2
        have hby2 := upI_bytes (W := P) (y := y) Hfr.out.2.2.2.2.2
        simp only at hby1 hby2
        generalize rowI P l y = X at *
        generalize upI P l y = Y at *
        have HX := hid hX
        have HY := hid hY
        have HPn := hid hPn
        have HE := hid hE
        have Hby1 := hid hby1
        have Hby2 := hid hby2
        clear hX hY hPn hE hby1 hby2
        go_wp2_with fail
        go_loopw [7, 8] (fun bs v wi => ∃ v0 : Nat, v0 ≤ 4 ∧ v = .int .i64 v0 ∧ bs = .string (strOf (bestS X Y (2 * P) v0)) ∧ Below wo.heap.size wo wi) (fun _ v _ => 4 - (intOf v).toNat)
        case atStart => exact ⟨0, by omega, rfl, rfl, Below.refl _ _⟩
        case round =>
          obtain ⟨v, hv, rfl, rfl, hbi⟩ := hrel
          obtain ⟨wp, rfl⟩ : ∃ wp : World, wp = wr := ⟨_, rfl⟩
          have hz2 := hbel.size
          have zz2 : w.heap.size < wo.heap.size := by omega
          have a0 := held_cellP hbi zz2 b0
          have a1 := held_cellP hbi zz2 b1
          have a2 := held_cellP hbi zz2 b2
          by_cases hv4 : v < 4
          · have hcw := ofNat_wrap (n := v) (by omega)
            have hcv := conv_one (UInt8.ofNat v)
            obtain ⟨cw, hcw0⟩ : ∃ cw, UInt8.ofNat v = cw := ⟨_, rfl⟩
            rw [hcw0] at hcw hcv
            have HC := hid hcw0
            clear hcw0
            have hvd : decide ((v : Int) < 4) = true := by simp; omega
            go_wp2_with fail
            clear hcv hcw hvd
            go_loopw [9, 10] (fun ts i wi => ∃ k : Nat, k ≤ 2 * P ∧ i = .int .i64 k ∧ ts = .string (strOf (cw :: toldI X Y v k)) ∧ Below wp.heap.size wp wi) (fun _ i _ => 2 * P - (intOf i).toNat)
            case atStart => exact ⟨0, by omega, rfl, rfl, (Below.refl _ _).alloc (Nat.le_refl _) _⟩
            case round =>
              obtain ⟨k, hk, rfl, rfl, hbk⟩ := hrel
              have hz3 := hbi.size
              have zz3 : w.heap.size < wp.heap.size := by omega
              have t0 := held_cellP hbk zz3 a0
              have t1 := held_cellP hbk zz3 a1
              have t2 := held_cellP hbk zz3 a2
              have htl := toldI_len X Y v k
              have hts := toldI_succ X Y v k
              by_cases hkl : k < 2 * P
              · have zz4 : w.heap.size < wr.heap.size := by have := hbk.size; omega
                have F0 := cell_all2 zz4 t0
                have F1 := cell_all2 zz4 t1
                have F2 := cell_all2 zz4 t2
                have hbA := bnext (bnext (bnext hB1 hbel) hbi) hbk
                have hpx := fun dd os => HP.out.below (bnext hbA (below_regrown wr dd os))
                have r1 := fun dd os => Ret.regrown (byteat_any P (H : Int) l A n c (y : Int) (k : Int) (grow (redrawn wr dd) os) (hpx dd os) (by omega) (by omega) (by omega) (fun _ _ _ => HPn.out) (by omega))
                have r2 := fun dd os => Ret.regrown (byteat_any P (H : Int) l A n c (y : Int) ((k : Int) - 2) (grow (redrawn wr dd) os) (hpx dd os) (by omega) (by omega) (by omega) (fun _ _ _ => HPn.out) (by omega))
                have r3 := fun dd os => Ret.regrown (byteat_any P (H : Int) l A n c ((y : Int) - 1) (k : Int) (grow (redrawn wr dd) os) (hpx dd os) (by omega) (by omega) (by omega) (fun _ _ _ => by have := HPn.out; rw [Int.sub_add_cancel]; rw [Int.add_mul] at this; omega) (by omega))
                have g1 := atI_bytes Hby1.out ((k : Int) - 2)
                have g2 := atI_bytes Hby2.out (k : Int)
                have g3 := atI_bytes Hby1.out (k : Int)
                have g4 := guessI_bd (way := v) g1 g2
                have r4 := fun dd os => Ret.regrown (guess_ret (rguess_any v hv4 (atI X ((k : Int) - 2)) (atI Y (k : Int)) (grow (redrawn wr dd) os) g1 g2))
                rw [HX.out] at r1 r2
                rw [HY.out] at r3
                have hq := byte_of (n := atI X (k : Int) - guessI v (atI X ((k : Int) - 2)) (atI Y (k : Int))) rfl (by omega)
                generalize guessI v (atI X ((k : Int) - 2)) (atI Y (k : Int)) = x3 at *
                generalize atI X (k : Int) = x0 at *
                generalize atI X ((k : Int) - 2) = x1 at *
                generalize atI Y (k : Int) = x2 at *
                have hcq := conv_one (byteI (x0 - x3))
                generalize byteI (x0 - x3) = q at *
                have e1 : IntKind.i64.wrap ((k : Int) - 2) = (k : Int) - 2 := IntWalk.i64_in _ (by omega)
                have e2 : IntKind.i64.wrap ((y : Int) - 1) = (y : Int) - 1 := IntWalk.i64_in _ (by omega)
                have e3 : IntKind.i64.wrap (x0 - x3) = x0 - x3 := IntWalk.i64_in _ (by omega)
                have Hq := hid hq
                have Hcq := hid hcq
                have Hts := hid hts
                clear hpx hq hcq hts t1 t2
                go_upto_region 16 with fail
                refine wp_region_quiet_below (by kernel_rfl) (by kernel_rfl) ?_
                iterate 3 (quiet_step (fail))
                quiet_step (exact r1 _ _)
                iterate 5 (quiet_step (fail))
                quiet_step (exact r2 _ _)
                iterate 4 (quiet_step (fail))
                quiet_step (exact r3 _ _)
                quiet_step (exact r4 _ _)
                iterate 2 (quiet_step (fail))
                (refine wpQuiet_nil ?_; intro _ hw'; obtain ⟨⟨dq, osq⟩, hw''⟩ := hw'; subst hw'')
                have hbQ := below_regrown wr dq osq
                have hbk2 := bnext hbk hbQ
                have t0 := F0 dq osq
                clear F0 F1 F2 r1 r2 r3 r4 e1 e2 e3
                generalize grow (redrawn wr dq) osq = W5 at *
                have hq := Hq.out
                have hcq := Hcq.out
                have happ := strOf_append
                have hsz : (strOf (cw :: toldI X Y v k)).size + (strOf [q]).size ≤ 1000 := by rw [strOf_size, strOf_size]; simp [htl]; omega
                go_wp2_with fail
                clear hq hcq happ hsz
                go_roundw
                case rel => exact ⟨k + 1, by omega, by go_num, by rw [Hts.out], hbk2.alloc hbk2.size _⟩
                case measure => simp [intOf]; omega
              · obtain rfl : k = 2 * P := by omega
                have hkd : decide (((2 * P : Nat) : Int) < 2 * (P : Int)) = false := by simp
                have htl2 := tail_str cw (toldI X Y v (2 * P))
                by_cases hv0 : v = 0
                · subst hv0
                  have hb0 := hid (show bestS X Y (2 * P) (0 + 1) = cw :: toldI X Y 0 (2 * P) by rw [bestS_succ, ← HC.out]; rfl)
                  have h00 : (((0 : Nat) : Int) == 0) = true := rfl
                  clear hts htl2
                  go_wp2_with fail
                  go_quiet (fail)
                  go_wp2_with fail
                  go_roundw
                  case rel => exact ⟨0 + 1, by omega, by go_num, by rw [hb0.out], below_drewN (bnext hbi hbk) _⟩
                  case measure => simp [intOf]
                · obtain ⟨u, rfl⟩ : ∃ u, v = u + 1 := ⟨v - 1, by omega⟩
                  have Hless := hid (best_less (r := X) (up := Y) (n := 2 * P) (w := u))
                  have Hmore := hid (best_more (r := X) (up := Y) (n := 2 * P) (w := u))
                  have hbn := hid (bestS_succ X Y (2 * P) (u + 1))
                  have hbl : (bestI X Y (2 * P) u).2.length = 2 * P := by rw [(bestI_at X Y (2 * P) u).2, toldI_len]
                  have hvn : (((u + 1 : Nat) : Int) == 0) = false := by simp; omega
                  rw [bestS_succ]
                  have htl3 := tail_str (UInt8.ofNat (bestI X Y (2 * P) u).1) (bestI X Y (2 * P) u).2
                  clear hts
                  obtain ⟨bc, hbc⟩ : ∃ bc, UInt8.ofNat (bestI X Y (2 * P) u).1 = bc := ⟨_, rfl⟩
                  rw [hbc] at htl3 ⊢
                  have Hbc := hid hbc
                  clear hbc
                  generalize toldI X Y (u + 1) (2 * P) = T at *
                  generalize (bestI X Y (2 * P) u).2 = Bs at *
                  have hsT : (strOf (cw :: T)).size = 2 * P + 1 := by rw [strOf_size]; simp [htl]
                  have hsB : (strOf (bc :: Bs)).size = 2 * P + 1 := by rw [strOf_size]; simp [hbl]
                  rw [hsT] at htl2
                  rw [hsB] at htl3
                  have hpT := pack_len _ T (Nat.le_refl _)
                  have hpB := pack_len _ Bs (Nat.le_refl _)
                  have hs1 := strOf_size (pack T)
                  have hs2 := strOf_size (pack Bs)
                  have r1 := fun dd os => Ret.regrown (rpacked_any (strOf T) (grow (redrawn wr dd) os) (by rw [strOf_size]; omega))
                  have r2 := fun dd os => Ret.regrown (rpacked_any (strOf Bs) (grow (redrawn wr dd) os) (by rw [strOf_size]; omega))
                  rw [strOf_data'] at r1 r2
                  have i1 : (1 : Int) ≤ 2 * (P : Int) + 1 := by omega
                  have i2 : (0 : Int) ≤ 1 := by omega
                  go_upto_region 18 with fail
                  refine wp_region_quiet_below (by kernel_rfl) (by kernel_rfl) ?_
                  iterate 5 (quiet_step (fail))
                  quiet_step (exact r1 _ _)
                  iterate 3 (quiet_step (fail))
                  quiet_step (exact r2 _ _)
                  iterate 3 (quiet_step (fail))
                  (refine wpQuiet_nil ?_; intro _ hw'; obtain ⟨⟨dq, osq⟩, hw''⟩ := hw'; subst hw'')
                  have hbQ := bnext (bnext hbi hbk) (below_regrown wr dq osq)
                  clear r1 r2 i1 i2 htl2 htl3 t0 t1 t2
                  generalize grow (redrawn wr dq) osq = W5 at *
                  by_cases hle : (pack T).length < (pack Bs).length
                  · have hn := Hless.out hle
                    rw [hn.1, hn.2, HC.out] at hbn
                    have Hbn := hid hbn.out
                    have hvn2 : ((u : Int) + 1 == 0) = false := by simp; omega
                    clear hs1 hs2 hpT hpB hn hbn hvn
                    go_wp2_with fail
                    go_roundw
                    case rel => exact ⟨u + 1 + 1, by omega, by go_num, by rw [Hbn.out], hbQ⟩
                    case measure => simp [intOf]; omega
                  · have hn := Hmore.out hle
                    rw [hn.1, hn.2, Hbc.out] at hbn
                    have Hbn := hid hbn.out
                    have hld : decide ((pack T).length < (pack Bs).length) = false := by simp; omega
                    have hvn2 : ((u : Int) + 1 == 0) = false := by simp; omega
                    clear hs1 hs2 hpT hpB hn hbn hvn
                    go_wp2_with fail
                    · exfalso
                      rcases (show (((u : Int) + 1 == 0) = true ∨ (pack T).length < (pack Bs).length) by assumption) with hh | hh
                      · rw [hvn2] at hh; cases hh
                      · exact hle hh
                    go_roundw
                    case rel => exact ⟨u + 1 + 1, by omega, by go_num, by rw [Hbn.out], hbQ⟩
                    case measure => simp [intOf]; omega
          · obtain rfl : 4 = v := by omega
            have hbE := hid (show bestS X Y (2 * P) 4 = encI P l y by rw [bestS_succ, HE.out])
            rw [hbE.out]
            have hlE := encI_len P l y
            have hsE : (strOf (encI P l y)).size ≤ 100 := by rw [strOf_size, hlE]; omega
            have hrs := hid (rowsI_succ P l y)
            clear hbE hlE
            generalize encI P l y = E at *
            have happ := strOf_append
            have hbF := hbel.trans (hbi.mono hbel.size)
            have hsz : (strOf (rowsI P l y)).size + (strOf E).size ≤ 1000 := by omega
            go_wp2_with fail
            go_roundw
            case rel => exact ⟨y + 1, by omega, by go_num, by rw [hrs.out], hbF⟩
            case measure => simp [intOf]; omega
      · obtain rfl : H = y := by omega
        have hpk := pack_len _ (rowsI P l H) (Nat.le_refl _)
        have HV2 := hid (show picBN ⟨(P : Int), (H : Int), l⟩ = .tuple #[.string (strOf ([UInt8.ofNat P, UInt8.ofNat H] ++ pack (rowsI P l H))), .int .i64 0] by
          rw [hV.out]; unfold picBytes; simp only [Int.toNat_natCast])
        have u0 := ofNat_wrap (n := P) (by omega)
        have u1 := ofNat_wrap (n := H) (by omega)
        have hzz := Nat.lt_of_lt_of_le zz hbel.size
        have F0 := cell_all2 hzz b0
        have F1 := cell_all2 hzz b1
        have HBF := hid (bnext hB1 hbel)
        have happ := strOf_append
        have hlR : (strOf (rowsI P l H)).size ≤ 1000000 := by omega
        have hr2 := HlR.out
        generalize rowsI P l H = R at *
        generalize UInt8.ofNat P = q0 at *
        generalize UInt8.ofNat H = q1 at *
        have hsz3 : ¬ 9223372036854775807 < (strOf [q0, q1]).size + (strOf (pack R)).size := by rw [strOf_size, strOf_size]; simp; omega
        have hcv := conv_two q0 q1
        have hpk2 := fun W => rpacked_any (strOf R) W hlR
        rw [strOf_data'] at hpk2
        have Hpk := hid hpk2
        clear hpk2 hV hbel HlPH Hfr hsR HlR hpk hr2 hlR d0 d1 d2
        go_upto_region 21 with fail
        have e0' : wr.drew.cell? ⟨w.heap.size, 0, none⟩ = some (.int .i64 (P : Int)) := b0
        have e1' : wr.drew.cell? ⟨w.heap.size, 1, none⟩ = some (.int .i64 (H : Int)) := b1
        have HBW0 : Below wr.heap.size wr wr.drew := (Below.refl _ _).drew
        clear F0 F1 b0 b1 b2
        go_region_law
          (go_simp; (first
            | (go_at_call 51; (with_reducible refine (Hpk.out _).mono ?_); rintro e w'' ⟨rfl, hbp⟩; have HB2 : Below wr.heap.size wr w'' := Below.trans (b := _) (by (repeat (first | with_reducible exact Below.refl _ _ | with_reducible refine Below.alloc ?_ (by first | omega | (simp; done) | (simp; omega)) _ | with_reducible refine below_drewN ?_ _ | with_reducible refine Below.drew ?_))) (hbp.mono (by first | omega | (simp; omega) | (simp; done))); have n2 := (HB2.cell (p := ⟨w.heap.size, 0, none⟩) hzz).trans e0'; have n3 := (HB2.cell (p := ⟨w.heap.size, 1, none⟩) hzz).trans e1'; obtain ⟨hcp, -⟩ := bcell hbp; clear hbp)))
        all_goals (clear hcp n2 n3 hsz3 hcv e0' e1' u0 u1)
        all_goals (go_wp2_with fail)
        all_goals go_ret2
        all_goals exact ⟨ret_eq' HV2.out, HBF.out.trans (by have hB := HB2.mono (Nat.le_of_lt hzz); (have hBs := hB.size; repeat (first | with_reducible exact hB | with_reducible refine Below.alloc ?_ (by first | omega | (simp; done) | (simp; omega)) _ | with_reducible refine below_drewN ?_ _ | with_reducible refine Below.drew ?_)))⟩
  · have hV := hid (picBN_bad hf)
    have hpos : (0 : Int) < ((picFault ⟨pw, ph, l⟩ : Nat) : Int) := by omega
    clear hf
    go_wp2_with fail
    go_ret2
    exact ⟨ret_eq' hV.out, hB1⟩
end Fb
