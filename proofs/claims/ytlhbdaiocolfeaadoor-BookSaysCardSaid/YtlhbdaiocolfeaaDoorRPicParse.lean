/- The reference's byteAt and guess return what the plain laws say. Conditions: a picture that may be, or pixels enough; a row of it. The reference's PictureBytes returns what the plain law of pictures' bytes says. Condition: few pixels. The reference's PictureOf returns what the plain law of pictures' bytes says. Condition: at most a thousand bytes. -/
import Derived.Test.YtlhbdaiocolfeaaDoorPicLaw3
import Derived.Test.YtlhbdaiocolfeaaDoorPicFault
import Derived.Test.YtlhbdaiocolfeaaDoorPicBytesW
import Derived.Test.YtlhbdaiocolfeaaDoorPicParse
namespace Fb
open Go Go.Proofs Go.RowKit Go.Sort
set_option maxHeartbeats 400000 in
theorem rguess_any (way : Nat) (h : way < 4) (a b : Int) (w : World) (ha : 0 ≤ a ∧ a ≤ 255) (hb : 0 ≤ b ∧ b ≤ 255) : Calls Tryd.prog 55 #[.int .i64 (way : Int), .int .i64 a, .int .i64 b] w fun e w' => e = .returned (.int .i64 (guessI way a b)) ∧ w = w' := by
  rcases (show way = 0 ∨ way = 1 ∨ way = 2 ∨ way = 3 by omega) with rfl | rfl | rfl | rfl
  all_goals
    go_enter Tryd.func55, Tryd.ntmps55
    go_wp2
    go_ret
    exact ⟨rfl, rfl⟩
theorem byteL_out {W : Nat} {l : List Px} {y i : Int} (h : y < 0 ∨ i < 0 ∨ 2 * (W : Int) ≤ i) : byteL W l y i = 0 := if_pos h
theorem byteL_at {W : Nat} {l : List Px} {y i : Nat} (hi : i < 2 * W) (h : y * W + i / 2 < l.length) : byteL W l (y : Int) (i : Int) = if i % 2 = 0 then l[y * W + i / 2].1 else l[y * W + i / 2].2 := by
  unfold byteL
  rw [if_neg (by omega), Int.toNat_natCast, Int.toNat_natCast, List.getD_eq_getElem?_getD]
  obtain ⟨h0, h1⟩ := flatPx_at l (y * W + i / 2) h
  have e : y * (2 * W) = 2 * (y * W) := Nat.mul_left_comm _ _ _
  by_cases hp : i % 2 = 0
  · rw [if_pos hp, show y * (2 * W) + i = 2 * (y * W + i / 2) by omega, h0]; rfl
  · rw [if_neg hp, show y * (2 * W) + i = 2 * (y * W + i / 2) + 1 by omega, h1]; rfl
set_option maxRecDepth 100000 in
set_option maxHeartbeats 1000000 in
theorem byteat_any (P : Nat) (ph : Int) (l : List Px) (A : Option Addr) (n c : Nat) (y i : Int) (w : World) (hl : Pixs w A n l) (hP : P ≤ 8) (hy : y ≤ 8) (hi : i ≤ 100) (hn : 0 ≤ y → 0 ≤ i → i < 2 * (P : Int) → (y + 1) * (P : Int) ≤ (n : Int)) (hn2 : n ≤ 1000) :
    Calls Tryd.prog 54 #[.agg #[.int .i64 (P : Int), .int .i64 ph, .slice A n c], .int .i64 y, .int .i64 i] w (Ret (.int .i64 (byteL P l y i)) w) := by
  have Hl := hid hl.1
  by_cases h1 : y < 0
  · have hr := hid (byteL_out (W := P) (l := l) (y := y) (i := i) (.inl h1))
    clear hl hn
    go_enter Tryd.func54, Tryd.ntmps54
    go_wp2_with fail
    go_ret
    exact ⟨ret_int hr.out.symm, (Below.refl _ _).alloc (Nat.le_refl _) _⟩
  by_cases h2 : i < 0
  · have hr := hid (byteL_out (W := P) (l := l) (y := y) (i := i) (.inr (.inl h2)))
    clear hl hn
    go_enter Tryd.func54, Tryd.ntmps54
    go_wp2_with fail
    go_ret
    exact ⟨ret_int hr.out.symm, (Below.refl _ _).alloc (Nat.le_refl _) _⟩
  by_cases h3 : 2 * (P : Int) ≤ i
  · have hr := hid (byteL_out (W := P) (l := l) (y := y) (i := i) (.inr (.inr h3)))
    clear hl hn
    go_enter Tryd.func54, Tryd.ntmps54
    go_wp2_with fail
    go_ret
    exact ⟨ret_int hr.out.symm, (Below.refl _ _).alloc (Nat.le_refl _) _⟩
  have hnn := hn (by omega) (by omega) (by omega)
  obtain ⟨Y, rfl⟩ : ∃ Y : Nat, y = (Y : Int) := ⟨y.toNat, by omega⟩
  obtain ⟨I, rfl⟩ : ∃ I : Nat, i = (I : Int) := ⟨i.toNat, by omega⟩
  clear hn
  obtain ⟨YP, hYP⟩ : ∃ YP, Y * P = YP := ⟨_, rfl⟩
  have hYPi : (Y : Int) * (P : Int) = (YP : Int) := by rw [← hYP]; simp
  rw [Int.add_mul, hYPi, Int.one_mul] at hnn
  have hk : Y * P + I / 2 < l.length := by rw [hYP, Hl.out]; omega
  have hr := hid (byteL_at (W := P) (l := l) (y := Y) (i := I) (by omega) hk)
  obtain ⟨b, off, rfl, hb, hc⟩ := hl.open_ (by omega)
  obtain ⟨x0, x1⟩ := hc _ hk
  generalize l[Y * P + I / 2] = px at *
  obtain ⟨pv, pa⟩ := px
  rw [hYP] at x0 x1
  obtain ⟨KK, hKK⟩ : ∃ KK, YP + I / 2 = KK := ⟨_, rfl⟩
  rw [hKK] at x0 x1
  simp only at x0 x1 hr
  have HYPi := hid hYPi
  have e1 : IntKind.i64.wrap ((Y : Int) * (P : Int)) = (YP : Int) := by rw [hYPi]; exact IntWalk.i64_in _ (by omega)
  have e2 : IntKind.i64.wrap ((YP : Int) + (I : Int) / 2) = (KK : Int) := by rw [show (YP : Int) + (I : Int) / 2 = (KK : Int) by omega]; exact IntWalk.i64_in _ (by omega)
  have q1 : (0 : Int) ≤ (KK : Int) := by omega
  have q2 : (KK : Int) < (n : Int) := by omega
  have q3 : ¬ (Y : Int) < 0 := by omega
  have HKK := hid hKK
  have HYP := hid hYP
  clear hl hc hKK hYP hYPi hk
  by_cases hp : I % 2 = 0
  · have hr2 := hid (hr.out.trans (if_pos hp))
    have hp' : (((I : Int) % 2) == 0) = true := by simp; omega
    clear hp hr
    go_enter Tryd.func54, Tryd.ntmps54
    go_wp2_with fail
    go_ret
    exact ⟨ret_int hr2.out.symm, ((Below.refl _ _).alloc (Nat.le_refl _) _).alloc (by simp) _⟩
  · have hr2 := hid (hr.out.trans (if_neg hp))
    have hp' : (((I : Int) % 2) == 0) = false := by simp; omega
    clear hp hr
    go_enter Tryd.func54, Tryd.ntmps54
    go_wp2_with fail
    go_ret
    exact ⟨ret_int hr2.out.symm, ((Below.refl _ _).alloc (Nat.le_refl _) _).alloc (by simp) _⟩
end Fb
namespace Fb
open Go Go.Proofs Go.RowKit Go.Sort
attribute [local go_sem ↓] Go.wp_at_zero Go.wp_at_succ
def picBN (p : FPic) : Value := .tuple #[.string (strOf (picB p)), .int .i64 (picFault p)]
theorem picBN_bad {p : FPic} (h : picFault p ≠ 0) : picBN p = .tuple #[.string ⟨#[]⟩, .int .i64 (picFault p)] := by
  unfold picBN picB; rw [if_neg h]; rfl
theorem picBN_ok {p : FPic} (h : picFault p = 0) : picBN p = .tuple #[.string (strOf (picBytes p)), .int .i64 0] := by
  unfold picBN picB; rw [if_pos h, h]; rfl
theorem conv_one (q0 : UInt8) (W : World) (g : Nat) (h0 : W.cell? ⟨g, 0, none⟩ = some (.int .u8 (q0.toNat : Int))) :
    (convert 67 9 (.slice (some ⟨g, 0, none⟩) 1 1)).run Tryd.prog W = .ok (.string (strOf [q0])) W := by
  refine run_string_row ⟨by simp [byteCells], fun _ => ⟨g, 0, rfl, ?_, fun j u hu => ?_⟩⟩ Tryd.underlying67 Tryd.underlying5 Tryd.underlying9
  · exact World.block_lt_of_cell? W ⟨g, 0, none⟩ h0
  · match j, hu with
    | 0, hu => simp [byteCells] at hu; subst hu; simpa using h0
theorem tail_str (c : UInt8) (T : List UInt8) : (strOf (c :: T)).extract 1 (strOf (c :: T)).size = strOf T := by
  apply ByteArray.ext
  simp [strOf]
  exact List.take_of_length_le (by simp [ByteArray.size])
theorem guess_ret {v : Value} {P : Program} {f : FuncId} {args : Array Value} {w : World} (h : Calls P f args w fun e w' => e = .returned v ∧ w = w') : Calls P f args w (Ret v w) :=
  h.mono fun _ _ h => ⟨h.1, by rw [← h.2]; exact Below.refl _ _⟩
/-- the best of the ways below 'way', as the reference holds it -/
def bestS (X Y : List Int) (n way : Nat) : List UInt8 := if way = 0 then [] else UInt8.ofNat (bestI X Y n (way - 1)).1 :: (bestI X Y n (way - 1)).2
theorem bestS_succ (X Y : List Int) (n way : Nat) : bestS X Y n (way + 1) = UInt8.ofNat (bestI X Y n way).1 :: (bestI X Y n way).2 := by unfold bestS; rw [if_neg (by omega)]; rfl
theorem byte_of {n m : Int} (h : m = n) (_h2 : -512 ≤ n) : (m + 512) % 256 = ((byteI n).toNat : Int) := by rw [byteI_nat]; omega
set_option maxRecDepth 100000 in
set_option maxHeartbeats 4000000 in
theorem rpbytes_any (r : FAt FPic) (w : World) (hp : Pixs w r.A r.n r.x.p) (hn : r.n ≤ 100) :
    Calls Tryd.prog 32 #[.agg #[.int .i64 r.x.w, .int .i64 r.x.h, .slice r.A r.n r.c]] w (Ret (picBN r.x) w) := by
  obtain ⟨⟨pw, ph, l⟩, A, n, c⟩ := r
  simp only at hp hn ⊢
  have HP := hid hp
  clear hp
  go_enter Tryd.func32, Tryd.ntmps32
  go_upto_region 1 with fail
  obtain ⟨W0, hW0⟩ : ∃ W0, W0 = w.alloc (.cells #[.int .i64 pw, .int .i64 ph, .slice A n c] 24) := ⟨_, rfl⟩
  have hB0 : Below w.heap.size w W0 := by rw [hW0]; exact (Below.refl w.heap.size w).alloc (Nat.le_refl _) _
  have c0 : W0.cell? ⟨w.heap.size, 0, none⟩ = some (.int .i64 pw) := by rw [hW0]; go_simp
  have c1 : W0.cell? ⟨w.heap.size, 1, none⟩ = some (.int .i64 ph) := by rw [hW0]; go_simp
  have c2 : W0.cell? ⟨w.heap.size, 2, none⟩ = some (.slice A n c) := by rw [hW0]; go_simp
  have z0 : w.heap.size < W0.heap.size := by rw [hW0]; simp
  rw [← hW0]
  clear hW0
  go_wp2_with fail
  refine (rpicfault_any ⟨⟨pw, ph, l⟩, A, n, c⟩ _ (HP.out.below hB0) hn).mono ?_
  rintro e w1 ⟨rfl, hb⟩
  have hB1 := bnext hB0 hb
  have d0 := held_cellP hb z0 c0
  have d1 := held_cellP hb z0 c1
  have d2 := held_cellP hb z0 c2
  have hz1 := hb.size
  clear hb c0 c1 c2
  by_cases hf : picFault ⟨pw, ph, l⟩ = 0
  · have fr := picFault_fine.1 hf
    have hV := hid (picBN_ok hf)
    rw [hf]
    obtain ⟨f1, f2, f3, f4, -, -⟩ := id fr
    simp only at f1 f2 f3 f4
    obtain ⟨P, rfl⟩ : ∃ P : Nat, pw = (P : Int) := ⟨pw.toNat, by omega⟩
    obtain ⟨H, rfl⟩ : ∃ H : Nat, ph = (H : Int) := ⟨ph.toNat, by omega⟩
    have Hfr := hid fr
    have HlPH : Hid (l.length = P * H) := hid (by
      have h5 := fr.2.2.2.2.1
      simp only at h5
      have : ((l.length : Nat) : Int) = ((P * H : Nat) : Int) := by rw [h5]; simp
      omega)
    clear hf fr
    have zz : w.heap.size < w1.heap.size := by omega
    go_wp2_with fail
    go_loopw [5, 6] (fun s i wr => ∃ y : Nat, y ≤ H ∧ i = .int .i64 y ∧ s = .string (strOf (rowsI P l y)) ∧ Below w1.heap.size w1 wr) (fun _ i _ => H - (intOf i).toNat)
    case atStart => exact ⟨0, by omega, rfl, rfl, Below.refl _ _⟩
    case round =>
      obtain ⟨y, hy, rfl, rfl, hbel⟩ := hrel
      have b0 := held_cellP hbel zz d0
      have b1 := held_cellP hbel zz d1
      have b2 := held_cellP hbel zz d2
      have hlR := rowsI_len P l y
      have hyq : y * (1 + 2 * P) ≤ 8 * 17 := Nat.mul_le_mul (by omega) (by omega)
      have hsR : (strOf (rowsI P l y)).size ≤ 200 := by rw [strOf_size, hlR]; omega
      have HlR := hid hlR
      clear hlR
      by_cases hlt : y < H
      · obtain ⟨wo, rfl⟩ : ∃ wo : World, wo = wr := ⟨_, rfl⟩
        have hX : ∀ i : Int, byteL P l (y : Int) i = atI (rowI P l y) i := byteL_row P l y
        have hY : ∀ i : Int, byteL P l ((y : Int) - 1) i = atI (upI P l y) i := byteL_up P l y
        have hPn : ((y : Int) + 1) * (P : Int) ≤ (n : Int) := by
          have h2 : (y + 1) * P ≤ H * P := Nat.mul_le_mul_right _ hlt
          rw [Nat.mul_comm H P, ← HlPH.out, HP.out.1] at h2
          have h3 : (((y + 1) * P : Nat) : Int) ≤ (n : Int) := by omega
          rw [Int.natCast_mul] at h3
          simpa using h3
        have hE : encI P l y = UInt8.ofNat (bestI (rowI P l y) (upI P l y) (2 * P) 3).1 :: (bestI (rowI P l y) (upI P l y) (2 * P) 3).2 := rfl
        have hby1 := rowI_bytes (W := P) (y := y) Hfr.out.2.2.2.2.2
        have hby2 := upI_bytes (W := P) (y := y) Hfr.out.2.2.2.2.2
        simp only at hby1 hby2
        generalize rowI P l y = X at *
        generalize upI P l y = Y at *
        have HX := hid hX
        have HY := hid hY
        have HPn := hid hPn
        have HE := hid hE
        have Hby1 := hid hby1
        have Hby2 := hid hby2
        clear hX hY hPn hE hby1 hby2
        go_wp2_with fail
        go_loopw [7, 8] (fun bs v wi => ∃ v0 : Nat, v0 ≤ 4 ∧ v = .int .i64 v0 ∧ bs = .string (strOf (bestS X Y (2 * P) v0)) ∧ Below wo.heap.size wo wi) (fun _ v _ => 4 - (intOf v).toNat)
        case atStart => exact ⟨0, by omega, rfl, rfl, Below.refl _ _⟩
        case round =>
          obtain ⟨v, hv, rfl, rfl, hbi⟩ := hrel
          obtain ⟨wp, rfl⟩ : ∃ wp : World, wp = wr := ⟨_, rfl⟩
          have hz2 := hbel.size
          have zz2 : w.heap.size < wo.heap.size := by omega
          have a0 := held_cellP hbi zz2 b0
          have a1 := held_cellP hbi zz2 b1
          have a2 := held_cellP hbi zz2 b2
          by_cases hv4 : v < 4
          · have hcw := ofNat_wrap (n := v) (by omega)
            have hcv := conv_one (UInt8.ofNat v)
            obtain ⟨cw, hcw0⟩ : ∃ cw, UInt8.ofNat v = cw := ⟨_, rfl⟩
            rw [hcw0] at hcw hcv
            have HC := hid hcw0
            clear hcw0
            have hvd : decide ((v : Int) < 4) = true := by simp; omega
            go_wp2_with fail
            clear hcv hcw hvd
            go_loopw [9, 10] (fun ts i wi => ∃ k : Nat, k ≤ 2 * P ∧ i = .int .i64 k ∧ ts = .string (strOf (cw :: toldI X Y v k)) ∧ Below wp.heap.size wp wi) (fun _ i _ => 2 * P - (intOf i).toNat)
            case atStart => exact ⟨0, by omega, rfl, rfl, (Below.refl _ _).alloc (Nat.le_refl _) _⟩
            case round =>
              obtain ⟨k, hk, rfl, rfl, hbk⟩ := hrel
              have hz3 := hbi.size
              have zz3 : w.heap.size < wp.heap.size := by omega
              have t0 := held_cellP hbk zz3 a0
              have t1 := held_cellP hbk zz3 a1
              have t2 := held_cellP hbk zz3 a2
              have htl := toldI_len X Y v k
              have hts := toldI_succ X Y v k
              by_cases hkl : k < 2 * P
              · have zz4 : w.heap.size < wr.heap.size := by have := hbk.size; omega
                have F0 := cell_all2 zz4 t0
                have F1 := cell_all2 zz4 t1
                have F2 := cell_all2 zz4 t2
                have hbA := bnext (bnext (bnext hB1 hbel) hbi) hbk
                have hpx := fun dd os => HP.out.below (bnext hbA (below_regrown wr dd os))
                have r1 := fun dd os => Ret.regrown (byteat_any P (H : Int) l A n c (y : Int) (k : Int) (grow (redrawn wr dd) os) (hpx dd os) (by omega) (by omega) (by omega) (fun _ _ _ => HPn.out) (by omega))
                have r2 := fun dd os => Ret.regrown (byteat_any P (H : Int) l A n c (y : Int) ((k : Int) - 2) (grow (redrawn wr dd) os) (hpx dd os) (by omega) (by omega) (by omega) (fun _ _ _ => HPn.out) (by omega))
                have r3 := fun dd os => Ret.regrown (byteat_any P (H : Int) l A n c ((y : Int) - 1) (k : Int) (grow (redrawn wr dd) os) (hpx dd os) (by omega) (by omega) (by omega) (fun _ _ _ => by have := HPn.out; rw [Int.sub_add_cancel]; rw [Int.add_mul] at this; omega) (by omega))
                have g1 := atI_bytes Hby1.out ((k : Int) - 2)
                have g2 := atI_bytes Hby2.out (k : Int)
                have g3 := atI_bytes Hby1.out (k : Int)
                have g4 := guessI_bd (way := v) g1 g2
                have r4 := fun dd os => Ret.regrown (guess_ret (rguess_any v hv4 (atI X ((k : Int) - 2)) (atI Y (k : Int)) (grow (redrawn wr dd) os) g1 g2))
                rw [HX.out] at r1 r2
                rw [HY.out] at r3
                have hq := byte_of (n := atI X (k : Int) - guessI v (atI X ((k : Int) - 2)) (atI Y (k : Int))) rfl (by omega)
                generalize guessI v (atI X ((k : Int) - 2)) (atI Y (k : Int)) = x3 at *
                generalize atI X (k : Int) = x0 at *
                generalize atI X ((k : Int) - 2) = x1 at *
                generalize atI Y (k : Int) = x2 at *
                have hcq := conv_one (byteI (x0 - x3))
                generalize byteI (x0 - x3) = q at *
                have e1 : IntKind.i64.wrap ((k : Int) - 2) = (k : Int) - 2 := IntWalk.i64_in _ (by omega)
                have e2 : IntKind.i64.wrap ((y : Int) - 1) = (y : Int) - 1 := IntWalk.i64_in _ (by omega)
                have e3 : IntKind.i64.wrap (x0 - x3) = x0 - x3 := IntWalk.i64_in _ (by omega)
                have Hq := hid hq
                have Hcq := hid hcq
                have Hts := hid hts
                clear hpx hq hcq hts t1 t2
                go_upto_region 16 with fail
                refine wp_region_quiet_below (by kernel_rfl) (by kernel_rfl) ?_
                iterate 3 (quiet_step (fail))
                quiet_step (exact r1 _ _)
                iterate 5 (quiet_step (fail))
                quiet_step (exact r2 _ _)
                iterate 4 (quiet_step (fail))
                quiet_step (exact r3 _ _)
                quiet_step (exact r4 _ _)
                iterate 2 (quiet_step (fail))
                (refine wpQuiet_nil ?_; intro _ hw'; obtain ⟨⟨dq, osq⟩, hw''⟩ := hw'; subst hw'')
                have hbQ := below_regrown wr dq osq
                have hbk2 := bnext hbk hbQ
                have t0 := F0 dq osq
                clear F0 F1 F2 r1 r2 r3 r4 e1 e2 e3
                generalize grow (redrawn wr dq) osq = W5 at *
                have hq := Hq.out
                have hcq := Hcq.out
                have happ := strOf_append
                have hsz : (strOf (cw :: toldI X Y v k)).size + (strOf [q]).size ≤ 1000 := by rw [strOf_size, strOf_size]; simp [htl]; omega
                go_wp2_with fail
                clear hq hcq happ hsz
                go_roundw
                case rel => exact ⟨k + 1, by omega, by go_num, by rw [Hts.out], hbk2.alloc hbk2.size _⟩
                case measure => simp [intOf]; omega
              · obtain rfl : k = 2 * P := by omega
                have hkd : decide (((2 * P : Nat) : Int) < 2 * (P : Int)) = false := by simp
                have htl2 := tail_str cw (toldI X Y v (2 * P))
                by_cases hv0 : v = 0
                · subst hv0
                  have hb0 := hid (show bestS X Y (2 * P) (0 + 1) = cw :: toldI X Y 0 (2 * P) by rw [bestS_succ, ← HC.out]; rfl)
                  have h00 : (((0 : Nat) : Int) == 0) = true := rfl
                  clear hts htl2
                  go_wp2_with fail
                  go_quiet (fail)
                  go_wp2_with fail
                  go_roundw
                  case rel => exact ⟨0 + 1, by omega, by go_num, by rw [hb0.out], below_drewN (bnext hbi hbk) _⟩
                  case measure => simp [intOf]
                · obtain ⟨u, rfl⟩ : ∃ u, v = u + 1 := ⟨v - 1, by omega⟩
                  have Hless := hid (best_less (r := X) (up := Y) (n := 2 * P) (w := u))
                  have Hmore := hid (best_more (r := X) (up := Y) (n := 2 * P) (w := u))
                  have hbn := hid (bestS_succ X Y (2 * P) (u + 1))
                  have hbl : (bestI X Y (2 * P) u).2.length = 2 * P := by rw [(bestI_at X Y (2 * P) u).2, toldI_len]
                  have hvn : (((u + 1 : Nat) : Int) == 0) = false := by simp; omega
                  rw [bestS_succ]
                  have htl3 := tail_str (UInt8.ofNat (bestI X Y (2 * P) u).1) (bestI X Y (2 * P) u).2
                  clear hts
                  obtain ⟨bc, hbc⟩ : ∃ bc, UInt8.ofNat (bestI X Y (2 * P) u).1 = bc := ⟨_, rfl⟩
                  rw [hbc] at htl3 ⊢
                  have Hbc := hid hbc
                  clear hbc
                  generalize toldI X Y (u + 1) (2 * P) = T at *
                  generalize (bestI X Y (2 * P) u).2 = Bs at *
                  have hsT : (strOf (cw :: T)).size = 2 * P + 1 := by rw [strOf_size]; simp [htl]
                  have hsB : (strOf (bc :: Bs)).size = 2 * P + 1 := by rw [strOf_size]; simp [hbl]
                  rw [hsT] at htl2
                  rw [hsB] at htl3
                  have hpT := pack_len _ T (Nat.le_refl _)
                  have hpB := pack_len _ Bs (Nat.le_refl _)
                  have hs1 := strOf_size (pack T)
                  have hs2 := strOf_size (pack Bs)
                  have r1 := fun dd os => Ret.regrown (rpacked_any (strOf T) (grow (redrawn wr dd) os) (by rw [strOf_size]; omega))
                  have r2 := fun dd os => Ret.regrown (rpacked_any (strOf Bs) (grow (redrawn wr dd) os) (by rw [strOf_size]; omega))
                  rw [strOf_data'] at r1 r2
                  have i1 : (1 : Int) ≤ 2 * (P : Int) + 1 := by omega
                  have i2 : (0 : Int) ≤ 1 := by omega
                  go_upto_region 18 with fail
                  refine wp_region_quiet_below (by kernel_rfl) (by kernel_rfl) ?_
                  iterate 5 (quiet_step (fail))
                  quiet_step (exact r1 _ _)
                  iterate 3 (quiet_step (fail))
                  quiet_step (exact r2 _ _)
                  iterate 3 (quiet_step (fail))
                  (refine wpQuiet_nil ?_; intro _ hw'; obtain ⟨⟨dq, osq⟩, hw''⟩ := hw'; subst hw'')
                  have hbQ := bnext (bnext hbi hbk) (below_regrown wr dq osq)
                  clear r1 r2 i1 i2 htl2 htl3 t0 t1 t2
                  generalize grow (redrawn wr dq) osq = W5 at *
                  by_cases hle : (pack T).length < (pack Bs).length
                  · have hn := Hless.out hle
                    rw [hn.1, hn.2, HC.out] at hbn
                    have Hbn := hid hbn.out
                    have hvn2 : ((u : Int) + 1 == 0) = false := by simp; omega
                    clear hs1 hs2 hpT hpB hn hbn hvn
                    go_wp2_with fail
                    go_roundw
                    case rel => exact ⟨u + 1 + 1, by omega, by go_num, by rw [Hbn.out], hbQ⟩
                    case measure => simp [intOf]; omega
                  · have hn := Hmore.out hle
                    rw [hn.1, hn.2, Hbc.out] at hbn
                    have Hbn := hid hbn.out
                    have hld : decide ((pack T).length < (pack Bs).length) = false := by simp; omega
                    have hvn2 : ((u : Int) + 1 == 0) = false := by simp; omega
                    clear hs1 hs2 hpT hpB hn hbn hvn
                    go_wp2_with fail
                    · exfalso
                      rcases (show (((u : Int) + 1 == 0) = true ∨ (pack T).length < (pack Bs).length) by assumption) with hh | hh
                      · rw [hvn2] at hh; cases hh
                      · exact hle hh
                    go_roundw
                    case rel => exact ⟨u + 1 + 1, by omega, by go_num, by rw [Hbn.out], hbQ⟩
                    case measure => simp [intOf]; omega
          · obtain rfl : 4 = v := by omega
            have hbE := hid (show bestS X Y (2 * P) 4 = encI P l y by rw [bestS_succ, HE.out])
            rw [hbE.out]
            have hlE := encI_len P l y
            have hsE : (strOf (encI P l y)).size ≤ 100 := by rw [strOf_size, hlE]; omega
            have hrs := hid (rowsI_succ P l y)
            clear hbE hlE
            generalize encI P l y = E at *
            have happ := strOf_append
            have hbF := hbel.trans (hbi.mono hbel.size)
            have hsz : (strOf (rowsI P l y)).size + (strOf E).size ≤ 1000 := by omega
            go_wp2_with fail
            go_roundw
            case rel => exact ⟨y + 1, by omega, by go_num, by rw [hrs.out], hbF⟩
            case measure => simp [intOf]; omega
      · obtain rfl : H = y := by omega
        have hpk := pack_len _ (rowsI P l H) (Nat.le_refl _)
        have HV2 := hid (show picBN ⟨(P : Int), (H : Int), l⟩ = .tuple #[.string (strOf ([UInt8.ofNat P, UInt8.ofNat H] ++ pack (rowsI P l H))), .int .i64 0] by
          rw [hV.out]; unfold picBytes; simp only [Int.toNat_natCast])
        have u0 := ofNat_wrap (n := P) (by omega)
        have u1 := ofNat_wrap (n := H) (by omega)
        have hzz := Nat.lt_of_lt_of_le zz hbel.size
        have F0 := cell_all2 hzz b0
        have F1 := cell_all2 hzz b1
        have HBF := hid (bnext hB1 hbel)
        have happ := strOf_append
        have hlR : (strOf (rowsI P l H)).size ≤ 1000000 := by omega
        have hr2 := HlR.out
        generalize rowsI P l H = R at *
        generalize UInt8.ofNat P = q0 at *
        generalize UInt8.ofNat H = q1 at *
        have hsz3 : ¬ 9223372036854775807 < (strOf [q0, q1]).size + (strOf (pack R)).size := by rw [strOf_size, strOf_size]; simp; omega
        have hcv := conv_two q0 q1
        have hpk2 := fun W => rpacked_any (strOf R) W hlR
        rw [strOf_data'] at hpk2
        have Hpk := hid hpk2
        clear hpk2 hV hbel HlPH Hfr hsR HlR hpk hr2 hlR d0 d1 d2
        go_upto_region 21 with fail
        have e0' : wr.drew.cell? ⟨w.heap.size, 0, none⟩ = some (.int .i64 (P : Int)) := b0
        have e1' : wr.drew.cell? ⟨w.heap.size, 1, none⟩ = some (.int .i64 (H : Int)) := b1
        have HBW0 : Below wr.heap.size wr wr.drew := (Below.refl _ _).drew
        clear F0 F1 b0 b1 b2
        go_region_law
          (go_simp; (first
            | (go_at_call 56; (with_reducible refine (Hpk.out _).mono ?_); rintro e w'' ⟨rfl, hbp⟩; have HB2 : Below wr.heap.size wr w'' := Below.trans (b := _) (by (repeat (first | with_reducible exact Below.refl _ _ | with_reducible refine Below.alloc ?_ (by first | omega | (simp; done) | (simp; omega)) _ | with_reducible refine below_drewN ?_ _ | with_reducible refine Below.drew ?_))) (hbp.mono (by first | omega | (simp; omega) | (simp; done))); have n2 := (HB2.cell (p := ⟨w.heap.size, 0, none⟩) hzz).trans e0'; have n3 := (HB2.cell (p := ⟨w.heap.size, 1, none⟩) hzz).trans e1'; obtain ⟨hcp, -⟩ := bcell hbp; clear hbp)))
        all_goals (clear hcp n2 n3 hsz3 hcv e0' e1' u0 u1)
        all_goals (go_wp2_with fail)
        all_goals go_ret2
        all_goals exact ⟨ret_eq' HV2.out, HBF.out.trans (by have hB := HB2.mono (Nat.le_of_lt hzz); (have hBs := hB.size; repeat (first | with_reducible exact hB | with_reducible refine Below.alloc ?_ (by first | omega | (simp; done) | (simp; omega)) _ | with_reducible refine below_drewN ?_ _ | with_reducible refine Below.drew ?_)))⟩
  · have hV := hid (picBN_bad hf)
    have hpos : (0 : Int) < ((picFault ⟨pw, ph, l⟩ : Nat) : Int) := by omega
    clear hf
    go_wp2_with fail
    go_ret2
    exact ⟨ret_eq' hV.out, hB1⟩
end Fb
namespace Fb
open Go Go.Proofs Go.RowKit Go.Sort
attribute [local go_sem ↓] Go.wp_at_zero Go.wp_at_succ
def RetPicN (x : FPic × Nat) (w : World) (e : Ending) (w' : World) : Prop := ∃ (A : Option Addr) (c : Nat), e = .returned (.tuple #[.agg #[.int .i64 x.1.w, .int .i64 x.1.h, .slice A x.1.p.length c], .int .i64 (x.2 : Int)]) ∧ Pixs w' A x.1.p.length x.1.p ∧ (∀ a, A = some a → w.heap.size ≤ a.block) ∧ Below w.heap.size w w'
theorem retPicN_bad {x : FPic × Nat} {f : Nat} {w w' : World} (h : x = (noPic, f)) (_hf : f ≠ 0) (hb : Below w.heap.size w w') : RetPicN x w (.returned (.tuple #[.agg #[.int .i64 0, .int .i64 0, .slice none 0 0], .int .i64 (f : Int)])) w' := by
  subst h
  exact ⟨none, 0, rfl, pixs_none _ _, (fun a ha => by simp at ha), hb⟩
theorem pxCells_flat : ∀ l : List Px, pxCells l = (flatPx l).map (Value.int .i64)
  | [] => rfl
  | a :: l => by
    have ih := pxCells_flat l
    rw [show pxCells (a :: l) = .int .i64 a.1 :: .int .i64 a.2 :: pxCells l from rfl, ih]
    rfl
/-- the pixels' block with one byte stored -/
theorem blk_byte {w : World} {pb k : Nat} {l : List Px} {odd : Bool} {v : Int} (h : w.heap[pb]? = some (.cells (pxCells l).toArray 114 (0, 0))) (hk : k < l.length) :
    (w.setCell ⟨pb, k * 2 + (if odd then 1 else 0), none⟩ (.int .i64 v)).heap[pb]? = some (.cells (pxCells (putByte l k odd v)).toArray 114 (0, 0)) := by
  have e : (pxCells l).set (k * 2 + (if odd then 1 else 0)) (.int .i64 v) = pxCells (putByte l k odd v) := by
    rw [pxCells_flat, pxCells_flat, putByte_flat l k odd v hk, List.map_set, Nat.mul_comm k 2]
  rw [← e]
  simp [World.setCell, Array.getElem?_modify, h]
theorem blk_pixs {w : World} {pb n : Nat} {l : List Px} {T : TypeId} {fz : Nat × Nat} (h : w.heap[pb]? = some (.cells (pxCells l).toArray T fz)) (hn : l.length = n) : Pixs w (some ⟨pb, 0, none⟩) n l := by
  refine ⟨hn, by rw [pxCells_len, hn], fun _ => ⟨pb, 0, rfl, (Array.getElem?_eq_some_iff.1 h).1, fun j u hu => ?_⟩⟩
  rw [Lib.cell_of_heap h, Nat.zero_add]
  simpa using hu
/-- so many rows are read, zeros behind them -/
structure RRd (w wr : World) (g pb P H NN y : Nat) (T : List UInt8) (acc l : List Px) : Prop where
  box : wr.heap[g]? = some (.cells #[.int .i64 (P : Int), .int .i64 (H : Int), .slice (some ⟨pb, 0, none⟩) NN NN] 24 (0, 0))
  pix : wr.heap[pb]? = some (.cells (pxCells l).toArray 114 (0, 0))
  len : l.length = NN
  nn : NN = P * H
  half : Half P H acc [] l
  inv : PInv P H T y acc
  bytes : ∀ x ∈ upI P acc y, 0 ≤ x ∧ x ≤ 255
  res : wr.heap[w.heap.size]? = some (.cells #[.int .i64 0, .int .i64 0, .slice none 0 0] 24 (0, 0))
  bel : Below w.heap.size w wr
/-- and so many bytes of a row -/
structure RBt (w wr : World) (g pb P H NN : Nat) (S : List UInt8) (up : List Int) (way i : Nat) (acc l : List Px) : Prop where
  box : wr.heap[g]? = some (.cells #[.int .i64 (P : Int), .int .i64 (H : Int), .slice (some ⟨pb, 0, none⟩) NN NN] 24 (0, 0))
  pix : wr.heap[pb]? = some (.cells (pxCells l).toArray 114 (0, 0))
  len : l.length = NN
  nn : NN = P * H
  half : Half P H acc (rowOf S up way i) l
  res : wr.heap[w.heap.size]? = some (.cells #[.int .i64 0, .int .i64 0, .slice none 0 0] 24 (0, 0))
  bel : Below w.heap.size w wr
theorem RBt.below {w wr w' : World} {g pb P H NN way i : Nat} {S : List UInt8} {up : List Int} {acc l : List Px} (h : RBt w wr g pb P H NN S up way i acc l) (hb : Below wr.heap.size wr w') : RBt w w' g pb P H NN S up way i acc l :=
  ⟨blk_below h.box hb, blk_below h.pix hb, h.len, h.nn, h.half, blk_below h.res hb, bnext h.bel hb⟩
theorem RBt.put {w wr : World} {g pb P H NN way i y : Nat} {S : List UInt8} {up : List Int} {acc l : List Px} {v : Int} {odd : Bool} (h : RBt w wr g pb P H NN S up way i acc l) (ha : acc.length = y * P) (hi : i < 2 * P) (hy : y < H) (hpb : w.heap.size < pb) (_hg : w.heap.size < g)
    (ho : odd = decide (i % 2 = 1)) (hv : v = (((S.getD i 0).toNat : Int) + guessI way (atI (rowOf S up way i) ((i : Int) - 2)) (atI up i)) % 256) (hne : pb ≠ g) :
    RBt w (wr.setCell ⟨pb, (y * P + i / 2) * 2 + (if odd then 1 else 0), none⟩ (.int .i64 v)) g pb P H NN S up way (i + 1) acc (putByte l (y * P + i / 2) odd v) := by
  subst ho
  have hk : y * P + i / 2 < l.length := by
    rw [h.len, h.nn]
    have h1 : (y + 1) * P ≤ H * P := Nat.mul_le_mul_right _ hy
    rw [Nat.add_mul, Nat.mul_comm H P] at h1
    omega
  have hh := half_step (v := v) h.half ha (rowOf_len S up way i) hi hy
  refine ⟨blk_set h.box hne, blk_byte h.pix hk, by rw [putByte_len]; exact h.len, h.nn, ?_, blk_set h.res (by omega), h.bel.setCell (by show w.heap.size ≤ pb; omega) _⟩
  rw [rowOf_succ, ← hv]
  exact hh
theorem RBt.put0 {w wr : World} {g pb P H NN way i y KK : Nat} {S : List UInt8} {up : List Int} {acc l : List Px} {v : Int} (h : RBt w wr g pb P H NN S up way i acc l) (ha : acc.length = y * P) (hi : i < 2 * P) (hy : y < H) (hpb : w.heap.size < pb) (hg : w.heap.size < g)
    (hp : i % 2 = 0) (hk : y * P + i / 2 = KK) (hv : v = (((S.getD i 0).toNat : Int) + guessI way (atI (rowOf S up way i) ((i : Int) - 2)) (atI up i)) % 256) (hne : pb ≠ g) :
    RBt w (wr.setCell ⟨pb, KK * 2, none⟩ (.int .i64 v)) g pb P H NN S up way (i + 1) acc (putByte l KK false v) := by
  have h1 := h.put (odd := false) ha hi hy hpb hg (by simp [hp]) hv hne
  rw [hk] at h1
  exact h1
theorem RBt.put1 {w wr : World} {g pb P H NN way i y KK : Nat} {S : List UInt8} {up : List Int} {acc l : List Px} {v : Int} (h : RBt w wr g pb P H NN S up way i acc l) (ha : acc.length = y * P) (hi : i < 2 * P) (hy : y < H) (hpb : w.heap.size < pb) (hg : w.heap.size < g)
    (hp : i % 2 = 1) (hk : y * P + i / 2 = KK) (hv : v = (((S.getD i 0).toNat : Int) + guessI way (atI (rowOf S up way i) ((i : Int) - 2)) (atI up i)) % 256) (hne : pb ≠ g) :
    RBt w (wr.setCell ⟨pb, KK * 2 + 1, none⟩ (.int .i64 v)) g pb P H NN S up way (i + 1) acc (putByte l KK true v) := by
  have h1 := h.put (odd := true) ha hi hy hpb hg (by simp [hp]) hv hne
  rw [hk] at h1
  exact h1
theorem blk_px {w : World} {pb k : Nat} {l : List Px} {T : TypeId} {fz : Nat × Nat} (h : w.heap[pb]? = some (.cells (pxCells l).toArray T fz)) (hk : k < l.length) : w.cell? ⟨pb, k * 2, none⟩ = some (.int .i64 l[k].1) ∧ w.cell? ⟨pb, k * 2 + 1, none⟩ = some (.int .i64 l[k].2) := by
  obtain ⟨h0, h1⟩ := flatPx_at l k hk
  rw [Lib.cell_of_heap h, Lib.cell_of_heap h]
  simp only [List.getElem?_toArray, pxCells_flat, List.getElem?_map]
  rw [Nat.mul_comm k 2, h0, h1]
  exact ⟨rfl, rfl⟩
set_option maxRecDepth 100000 in
set_option maxHeartbeats 4000000 in
theorem rparse_any (s : ByteArray) (w : World) (hs : s.size ≤ 10000) :
    Calls Tryd.prog 35 #[.string s] w (RetPicN (picOf s.data.toList) w) := by
  have hsz : s.data.toList.length = s.size := by simp
  have Hsz := hid hsz
  clear hsz
  by_cases h2 : s.size < 2
  · have hV := hid (picOf_short (s := s.data.toList) (by rw [Hsz.out]; exact h2))
    go_enter Tryd.func35, Tryd.ntmps35
    go_wp2_with fail
    refine bodyPost_ret (v := .tuple #[.agg #[.int .i64 0, .int .i64 0, .slice none 0 0], .int .i64 4]) (by simp [results, Tryd.results35, go_sem]) rfl ?_
    exact retPicN_bad hV.out (by decide) ((Below.refl _ _).alloc (Nat.le_refl _) _)
  have i0 : (0 : Int) ≤ 0 := by omega
  have i1 : (0 : Int) < (s.size : Int) := by omega
  have i2 : (1 : Int) < (s.size : Int) := by omega
  have h2' : ¬ (s.size : Int) < 2 := by omega
  have hp0 := getD_str s 0 (by omega)
  have hp1 := getD_str s 1 (by omega)
  obtain ⟨P, hP⟩ : ∃ P, (s[0]).toNat = P := ⟨_, rfl⟩
  obtain ⟨H, hH⟩ : ∃ H, (s[1]).toNat = H := ⟨_, rfl⟩
  have b0 := UInt8.toNat_lt s[0]
  have b1 := UInt8.toNat_lt s[1]
  rw [hP] at hp0 b0
  rw [hH] at hp1 b1
  have Hp0 := hid hp0
  have Hp1 := hid hp1
  have HP := hid hP
  have HH := hid hH
  clear hp0 hp1 hP hH
  go_enter Tryd.func35, Tryd.ntmps35
  have j1 : 0 < s.size := by omega
  have j2 : 1 < s.size := by omega
  go_upto_region 3 with fail
  have hP := HP.out
  have hH := HH.out
  have e1 : IntKind.i64.wrap (P : Int) = (P : Int) := IntWalk.i64_in _ (by omega)
  have e2 : IntKind.i64.wrap (H : Int) = (H : Int) := IntWalk.i64_in _ (by omega)
  go_region
  clear hP hH e1 e2 i0 i1 i2 j1 j2
  obtain ⟨W0, hW0⟩ : ∃ W0, W0 = ((w.alloc (.cells #[.int .i64 0, .int .i64 0, .slice none 0 0] 24)).alloc (.cells #[.int .i64 (P : Int), .int .i64 (H : Int), .slice none 0 0] 24)).drew := ⟨_, rfl⟩
  rw [← hW0]
  have hB0 : Below w.heap.size w W0 := by rw [hW0]; exact (((Below.refl w.heap.size w).alloc (Nat.le_refl _) _).alloc (by simp) _).drew
  have hR : W0.heap[w.heap.size]? = some (.cells #[.int .i64 0, .int .i64 0, .slice none 0 0] 24 (0, 0)) := by
    rw [hW0]; show ((w.alloc _).alloc _).heap[_]? = _
    rw [Lib.alloc_old _ _ _ (by simp)]; exact heap_alloc_new w _
  obtain ⟨g, hg⟩ : ∃ g, g = w.heap.size + 1 := ⟨_, rfl⟩
  have hG : W0.heap[g]? = some (.cells #[.int .i64 (P : Int), .int .i64 (H : Int), .slice none 0 0] 24 (0, 0)) := by
    rw [hW0, hg]
    have h := heap_alloc_new (w.alloc (.cells #[.int .i64 0, .int .i64 0, .slice none 0 0] 24)) (.cells #[.int .i64 (P : Int), .int .i64 (H : Int), .slice none 0 0] 24)
    rw [show (w.alloc (.cells #[.int .i64 0, .int .i64 0, .slice none 0 0] 24)).heap.size = w.heap.size + 1 by simp] at h
    exact h
  have hgw : w.heap.size < g := by omega
  have hz0 : g < W0.heap.size := (Array.getElem?_eq_some_iff.1 hG).1
  rw [← hg]
  clear hW0 hg
  have p0 := blk_cell hG 0 (.int .i64 (P : Int)) rfl
  have p1 := blk_cell hG 1 (.int .i64 (H : Int)) rfl
  have r0 := blk_cell hR 0 (.int .i64 0) rfl
  have r1 := blk_cell hR 1 (.int .i64 0) rfl
  have r2 := blk_cell hR 2 (.slice none 0 0) rfl
  have f0 := blk_free hR 0
  have f1 := blk_free hR 1
  have f2 := blk_free hR 2
  have HR := hid hR
  have HG := hid hG
  clear hR hG
  have ways : P < 1 ∨ (1 ≤ P ∧ 8 < P) ∨ (1 ≤ P ∧ P ≤ 8 ∧ H < 1) ∨ (1 ≤ P ∧ P ≤ 8 ∧ 1 ≤ H ∧ 8 < H) ∨ (1 ≤ P ∧ P ≤ 8 ∧ 1 ≤ H ∧ H ≤ 8) := by omega
  rcases ways with hw | hw | hw | hw | hw
  iterate 4
    · have hV := hid (picOf_bound (s := s.data.toList) (by rw [Hsz.out]; exact h2) (by rw [Hp0.out, Hp1.out]; omega))
      have hwi : (P : Int) < 1 ∨ (1 ≤ (P : Int) ∧ 8 < (P : Int)) ∨ (1 ≤ (P : Int) ∧ (P : Int) ≤ 8 ∧ (H : Int) < 1) ∨ (1 ≤ (P : Int) ∧ (P : Int) ≤ 8 ∧ 1 ≤ (H : Int) ∧ 8 < (H : Int)) := by omega
      clear hwi
      go_wp2_with fail
      refine bodyPost_ret (v := .tuple #[.agg #[.int .i64 0, .int .i64 0, .slice none 0 0], .int .i64 1]) (by simp [results, Tryd.results35, go_sem, r0, r1, r2]) rfl ?_
      exact retPicN_bad hV.out (by decide) (((hB0.setCell (Nat.le_refl _) _).setCell (Nat.le_refl _) _).setCell (Nat.le_refl _) _)
  obtain ⟨w1, w2, w3, w4⟩ := hw
  go_upto_region 7 with fail
  have hgz : w.heap.size < W0.heap.size := by omega
  have F0 := cell_all2 hz0 p0
  have F1 := cell_all2 hz0 p1
  obtain ⟨M, hM⟩ : ∃ M, H * (1 + 2 * P) = M := ⟨_, rfl⟩
  have hMi : (H : Int) * (1 + 2 * (P : Int)) = (M : Int) := by rw [← hM]; simp
  have hMb : M ≤ 8 * 17 := by rw [← hM]; exact Nat.mul_le_mul w4 (by omega)
  have hM1 : 1 ≤ M := by rw [← hM]; exact Nat.le_trans w3 (Nat.le_mul_of_pos_right _ (by omega))
  have e3 : IntKind.i64.wrap (2 * (P : Int)) = 2 * (P : Int) := IntWalk.i64_in _ (by omega)
  have e4 : IntKind.i64.wrap (1 + 2 * (P : Int)) = 1 + 2 * (P : Int) := IntWalk.i64_in _ (by omega)
  have e5 : IntKind.i64.wrap ((H : Int) * (1 + 2 * (P : Int))) = (M : Int) := by rw [hMi]; exact IntWalk.i64_in _ (by omega)
  have i1 : (2 : Int) ≤ (s.size : Int) := by omega
  have i2 : (0 : Int) ≤ 2 := by omega
  have hex : (s.extract 2 s.size).data.toList = s.data.toList.drop 2 := by
    rw [extract_list, List.take_of_length_le (by rw [Hsz.out]; exact Nat.le_refl _)]
  have hexs : (s.extract 2 s.size).size ≤ 1000000 := by simp; omega
  obtain ⟨⟨T, f⟩, hu⟩ : ∃ u, unpack (s.data.toList.drop 2) (M : Int) = u := ⟨_, rfl⟩
  have k1 := fun dd os => Ret.regrown (runpacked_any (s.extract 2 s.size) (M : Int) (grow (redrawn W0 dd) os) hexs (by omega))
  rw [hex, unpN_of hu] at k1
  have hlT : T.length ≤ M := by
    have h := unpack_len (s.data.toList.drop 2) (M : Int)
    rw [hu] at h
    simp only at h
    omega
  have HM := hid hM
  have HMi := hid hMi
  have Hu := hid hu
  clear hM hMi hu hex
  refine wp_region_quiet_below (by kernel_rfl) (by kernel_rfl) ?_
  iterate 6 (quiet_step (fail))
  quiet_step (exact k1 _ _)
  iterate 5 (quiet_step (fail))
  (refine wpQuiet_nil ?_; intro _ hw'; obtain ⟨⟨dq, osq⟩, hw''⟩ := hw'; subst hw'')
  have hbQ := below_regrown W0 dq osq
  have hB1 := bnext hB0 hbQ
  have HR1 := hid (blk_below HR.out hbQ)
  have HG1 := hid (blk_below HG.out hbQ)
  clear F0 F1 k1 e3 e4 e5 i1 i2 p0 p1 r0 r1 r2 f0 f1 f2 HR HG hbQ hz0 hB0 hgz
  generalize grow (redrawn W0 dq) osq = W1 at *
  have p0 := blk_cell HG1.out 0 (.int .i64 (P : Int)) rfl
  have p1 := blk_cell HG1.out 1 (.int .i64 (H : Int)) rfl
  have hR0 := blk_cell HR1.out 0 (.int .i64 0) rfl
  have hR1 := blk_cell HR1.out 1 (.int .i64 0) rfl
  have hR2 := blk_cell HR1.out 2 (.slice none 0 0) rfl
  have f0 := blk_free HR1.out 0
  have f1 := blk_free HR1.out 1
  have f2 := blk_free HR1.out 2
  by_cases hf : f = 0
  · subst hf
    by_cases hl : T.length = M
    · have hsT : (strOf T).size = M := by rw [strOf_size, hl]
      have e5 : IntKind.i64.wrap ((H : Int) * (1 + 2 * (P : Int))) = (M : Int) := by rw [HMi.out]; exact IntWalk.i64_in _ (by omega)
      have Hl := hid hl
      clear hl
      obtain ⟨NN, hNN⟩ : ∃ NN, NN = P * H := ⟨_, rfl⟩
      have hNNi : (P : Int) * (H : Int) = (NN : Int) := by rw [hNN]; simp
      have hNb : NN ≤ 64 := by rw [hNN]; exact Nat.mul_le_mul w2 w4
      have hN1 : 1 ≤ NN := by rw [hNN]; exact Nat.mul_le_mul w1 w3
      have e6 : IntKind.i64.wrap ((P : Int) * (H : Int)) = (NN : Int) := by rw [hNNi]; exact IntWalk.i64_in _ (by omega)
      have HNN := hid hNN
      obtain ⟨i0, hi, hz0, hz1, hz2⟩ := info_parts info_px
      have hg1z : g < W1.heap.size := (Array.getElem?_eq_some_iff.1 HG1.out).1
      clear hNN hNNi
      go_wp2_with (at_make; refine wpList_make_full _ rfl (.tmp 72) (.tmp 72) 22 rfl W1.heap.size 114 i0 (.agg #[.int .i64 0, .int .i64 0]) 2 Tryd.underlying22 hi hz0 hz1 .i64 .i64 NN NN NN rfl rfl rfl rfl ?b2 ?b3 (Nat.le_refl _) ?_)
      case b2 => omega
      case b3 => unfold maxLen; omega
      intro W2 hown hgrow
      have hb12 : Below W1.heap.size W1 W2 := (Below.refl W1.heap.size W1).grown hgrow (Nat.le_refl _) (fun g hg => by cases hg)
      have hh := own_full hown
      rw [made_px] at hh
      have hrep : repCells (0, 0) 0 NN = pxCells (List.replicate NN (0, 0)) := by unfold repCells; simp
      rw [hrep] at hh
      have hGG := blk_below HG1.out hb12
      have hRR := blk_below HR1.out hb12
      have z2 := blk_cell hGG 2 (.slice none 0 0) rfl
      have z3 := blk_free hGG 2
      obtain ⟨pb, hpb⟩ : ∃ pb, pb = W1.heap.size := ⟨_, rfl⟩
      rw [← hpb] at hh hown ⊢
      have hpg : ¬ pb = g := by omega
      have HST := hid (show RRd w (W2.setCell ⟨g, 2, none⟩ (.slice (some ⟨pb, 0, none⟩) NN NN)) g pb P H NN 0 T [] (List.replicate NN (0, 0)) from
        ⟨by simp [World.setCell, Array.getElem?_modify, hGG], blk_set hh (by omega), by simp, HNN.out, by rw [HNN.out]; exact half_start P H, PInv.start _ _ _, fun x hx => by unfold upI at hx; simp at hx, blk_set hRR (by omega), (bnext hB1 hb12).setCell (by show w.heap.size ≤ g; omega) _⟩)
      have Hpb := hid (show w.heap.size < pb by omega)
      clear hh hown hgrow hrep hb12 hpb p0 p1 e6
      go_wp2_with fail
      clear z2 z3 hGG hRR hR0 hR1 hR2 f0 f1 f2 hsT e5
      go_loopw [8] (fun i wr => ∃ (y : Nat) (acc l : List Px), y ≤ H ∧ i = .int .i64 y ∧ RRd w wr g pb P H NN y T acc l) (fun i _ => H - (intOf i).toNat)
      case atStart => exact ⟨0, [], _, by omega, rfl, HST.out⟩
      case round =>
        clear HST
        obtain ⟨y, acc, l, hy, rfl, hrd⟩ := hrel
        obtain ⟨wo, rfl⟩ : ∃ wo : World, wo = wr := ⟨_, rfl⟩
        have p0 := blk_cell hrd.box 0 (.int .i64 (P : Int)) rfl
        have p1 := blk_cell hrd.box 1 (.int .i64 (H : Int)) rfl
        have p2 := blk_cell hrd.box 2 (.slice (some ⟨pb, 0, none⟩) NN NN) rfl
        by_cases hlt : y < H
        · obtain ⟨K, hK⟩ : ∃ K, y * (1 + 2 * P) = K := ⟨_, rfl⟩
          have hKM : K + (1 + 2 * P) ≤ M := by
            have h1 : (y + 1) * (1 + 2 * P) ≤ H * (1 + 2 * P) := Nat.mul_le_mul_right _ hlt
            rw [Nat.add_mul, HM.out, hK] at h1
            omega
          have hKi : (y : Int) * (1 + 2 * (P : Int)) = (K : Int) := by rw [← hK]; simp
          have e1 : IntKind.i64.wrap ((y : Int) * (1 + 2 * (P : Int))) = (K : Int) := by rw [hKi]; exact IntWalk.i64_in _ (by omega)
          have HK := hid hK
          have hsT : (strOf T).size = T.length := strOf_size T
          have hTl : T.length = M := Hl.out
          have hKl : K < T.length := by omega
          obtain ⟨way, hway⟩ : ∃ way, (T[K]'hKl).toNat = way := ⟨_, rfl⟩
          have hget : (T.getD (y * (1 + 2 * P)) 0).toNat = way := by rw [hK, List.getD_eq_getElem?_getD, List.getElem?_eq_getElem hKl]; exact hway
          have hi0 : ∀ h, ((strOf T)[K]'h).toNat = way := fun _ => hway
          have bc := UInt8.toNat_lt (T[K]'hKl)
          rw [hway] at bc
          have j1 : (0 : Int) ≤ (K : Int) := by omega
          have j2 : (K : Int) < ((strOf T).size : Int) := by omega
          have j3 : K < (strOf T).size := by omega
          have Hget := hid hget
          clear hget hway hKi hK
          by_cases hw4 : 4 ≤ way
          · have hV := hid (picOf_none (s := s.data.toList) (by rw [Hsz.out]; exact h2) Hp0.out Hp1.out ⟨w1, w2, w3, w4⟩ (by rw [HM.out]; exact Hu.out) (by rw [HM.out]; exact Hl.out) (hrd.inv.bad hlt (by rw [Hget.out]; exact hw4)))
            have hR0 := blk_cell hrd.res 0 (.int .i64 0) rfl
            have hR1 := blk_cell hrd.res 1 (.int .i64 0) rfl
            have hR2 := blk_cell hrd.res 2 (.slice none 0 0) rfl
            have f0 := blk_free hrd.res 0
            have f1 := blk_free hrd.res 1
            have f2 := blk_free hrd.res 2
            have hbF := hrd.bel
            have hw3 : (3 : Int) < (way : Int) := by omega
            clear hrd hTl
            go_wp2_with fail
            refine bodyPost_ret (v := .tuple #[.agg #[.int .i64 0, .int .i64 0, .slice none 0 0], .int .i64 4]) (by simp [results, Tryd.results35, go_sem, hR0, hR1, hR2]) rfl ?_
            exact retPicN_bad hV.out (by decide) (((hbF.setCell (Nat.le_refl _) _).setCell (Nat.le_refl _) _).setCell (Nat.le_refl _) _)
          · have hw4' : ¬ (3 : Int) < (way : Int) := by omega
            have hwd : decide ((3 : Int) < (way : Int)) = false := by simp; omega
            have hstp := hid (hrd.inv.step hlt (by rw [Hget.out]; omega))
            rw [Hget.out] at hstp
            have Hby := hid hrd.bytes
            have Hal := hid hrd.inv.2
            have HS0 := hid (show RBt w wo g pb P H NN (T.drop (K + 1)) (upI P acc y) way 0 acc l from ⟨hrd.box, hrd.pix, hrd.len, hrd.nn, hrd.half, hrd.res, hrd.bel⟩)
            clear hrd
            go_wp2_with fail
            clear hi0 j1 j2 j3 hw4' hwd e1
            have HKi := hid (show (y : Int) * (1 + 2 * (P : Int)) = (K : Int) by rw [← HK.out]; simp)
            go_loopw [10] (fun i wi => ∃ (k : Nat) (l2 : List Px), k ≤ 2 * P ∧ i = .int .i64 k ∧ RBt w wi g pb P H NN (T.drop (K + 1)) (upI P acc y) way k acc l2) (fun i _ => 2 * P - (intOf i).toNat)
            case atStart => exact ⟨0, l, by omega, rfl, HS0.out⟩
            case round =>
              clear HS0 p0 p1 p2
              obtain ⟨k, l2, hk, rfl, hrb⟩ := hrel
              have hgz := (Array.getElem?_eq_some_iff.1 hrb.box).1
              have p0 := blk_cell hrb.box 0 (.int .i64 (P : Int)) rfl
              have p1 := blk_cell hrb.box 1 (.int .i64 (H : Int)) rfl
              have p2 := blk_cell hrb.box 2 (.slice (some ⟨pb, 0, none⟩) NN NN) rfl
              by_cases hkl : k < 2 * P
              · have F0 := cell_all2 hgz p0
                have F1 := cell_all2 hgz p1
                have F2 := cell_all2 hgz p2
                have hpx := fun dd os => (blk_pixs hrb.pix hrb.len).below (below_regrown wr dd os)
                obtain ⟨YP, hYP⟩ : ∃ YP, y * P = YP := ⟨_, rfl⟩
                have hYPi : (y : Int) * (P : Int) = (YP : Int) := by rw [← hYP]; simp
                have hYPn : YP + P ≤ NN := by
                  have h2 : (y + 1) * P ≤ H * P := Nat.mul_le_mul_right _ hlt
                  rw [Nat.add_mul, hYP, Nat.mul_comm H P, ← HNN.out] at h2
                  omega
                have k1 := fun dd os => Ret.regrown (byteat_any P (H : Int) l2 (some ⟨pb, 0, none⟩) NN NN (y : Int) ((k : Int) - 2) (grow (redrawn wr dd) os) (hpx dd os) (by omega) (by omega) (by omega) (fun _ _ _ => by rw [Int.add_mul, hYPi]; omega) (by omega))
                have k2 := fun dd os => Ret.regrown (byteat_any P (H : Int) l2 (some ⟨pb, 0, none⟩) NN NN ((y : Int) - 1) (k : Int) (grow (redrawn wr dd) os) (hpx dd os) (by omega) (by omega) (by omega) (fun _ _ _ => by rw [Int.sub_add_cancel, hYPi]; omega) (by omega))
                have hl1 := half_left hrb.half Hal.out (rowOf_len _ _ _ _) hkl ((k : Int) - 2) (by omega)
                have hl2 := half_up hrb.half Hal.out (by omega) (k : Int)
                rw [hl1] at k1
                rw [hl2] at k2
                have g1 := atI_bytes (rowOf_bytes (T.drop (K + 1)) (upI P acc y) way k) ((k : Int) - 2)
                have g2 := atI_bytes Hby.out (k : Int)
                have g4 := guessI_bd (way := way) g1 g2
                have k3 := fun dd os => Ret.regrown (guess_ret (rguess_any way (by omega) _ _ (grow (redrawn wr dd) os) g1 g2))
                have hkT : K + 1 + k < T.length := by omega
                have hgd : ((T.drop (K + 1)).getD k 0).toNat = (T[K + 1 + k]'hkT).toNat := by
                  rw [List.getD_eq_getElem?_getD, List.getElem?_drop, List.getElem?_eq_getElem hkT]; rfl
                have bcc := UInt8.toNat_lt (T[K + 1 + k]'hkT)
                have hi0 : ∀ h, ((strOf T)[K + 1 + k]'h).toNat = (T[K + 1 + k]'hkT).toNat := fun _ => rfl
                have Hput0 := hid (fun (W : World) (hb : Below wr.heap.size wr W) hp KK hKK hpg2 => (hrb.below hb).put0 (KK := KK) Hal.out hkl hlt Hpb.out hgw hp hKK rfl hpg2)
                have Hput1 := hid (fun (W : World) (hb : Below wr.heap.size wr W) hp KK hKK hpg2 => (hrb.below hb).put1 (KK := KK) Hal.out hkl hlt Hpb.out hgw hp hKK rfl hpg2)
                rw [hgd] at Hput0 Hput1
                generalize (T[K + 1 + k]'hkT).toNat = cc at *
                generalize guessI way (atI (rowOf (T.drop (K + 1)) (upI P acc y) way k) ((k : Int) - 2)) (atI (upI P acc y) (k : Int)) = x3 at *
                generalize atI (rowOf (T.drop (K + 1)) (upI P acc y) way k) ((k : Int) - 2) = x1 at *
                generalize atI (upI P acc y) (k : Int) = x2 at *
                obtain ⟨x4, hx4⟩ : ∃ x4 : Int, ((cc : Int) + x3) % 256 = x4 := ⟨_, rfl⟩
                have a1 : IntKind.i64.wrap ((y : Int) * (1 + 2 * (P : Int))) = (K : Int) := by rw [HKi.out]; exact IntWalk.i64_in _ (by omega)
                have a2 : IntKind.i64.wrap ((K : Int) + 1) = (K : Int) + 1 := IntWalk.i64_in _ (by omega)
                have a3 : IntKind.i64.wrap ((K : Int) + 1 + (k : Int)) = (K : Int) + 1 + (k : Int) := IntWalk.i64_in _ (by omega)
                have a4 : ((K : Int) + 1 + (k : Int)).toNat = K + 1 + k := by omega
                have a5 : (0 : Int) ≤ (K : Int) + 1 + (k : Int) := by omega
                have a6 : (K : Int) + 1 + (k : Int) < ((strOf T).size : Int) := by omega
                have a7 : K + 1 + k < (strOf T).size := by omega
                have a14 : (K : Int) + 1 + (k : Int) < (M : Int) := by omega
                have a8 : IntKind.i64.wrap (cc : Int) = (cc : Int) := IntWalk.i64_in _ (by omega)
                have a9 : IntKind.i64.wrap ((k : Int) - 2) = (k : Int) - 2 := IntWalk.i64_in _ (by omega)
                have a10 : IntKind.i64.wrap ((y : Int) - 1) = (y : Int) - 1 := IntWalk.i64_in _ (by omega)
                have a11 : IntKind.i64.wrap ((cc : Int) + x3) = (cc : Int) + x3 := IntWalk.i64_in _ (by omega)
                have a12 : ((cc : Int) + x3).tmod 256 = x4 := by rw [← hx4]; exact Int.tmod_eq_emod_of_nonneg (by omega)
                have a13 : IntKind.i64.wrap x4 = x4 := IntWalk.i64_in _ (by omega)
                rw [hx4] at Hput0 Hput1
                have HYP := hid hYP
                have HYPi := hid hYPi
                clear hpx hl1 hl2 hgd hx4 hYP hYPi
                go_upto_region 22 with fail
                refine wp_region_quiet_below (by kernel_rfl) (by kernel_rfl) ?_
                iterate 14 (quiet_step (fail))
                quiet_step (exact k1 _ _)
                iterate 4 (quiet_step (fail))
                quiet_step (exact k2 _ _)
                quiet_step (exact k3 _ _)
                iterate 3 (quiet_step (fail))
                (refine wpQuiet_nil ?_; intro _ hw'; obtain ⟨⟨dq, osq⟩, hw''⟩ := hw'; subst hw'')
                have hbQ := below_regrown wr dq osq
                have hrb5 := hrb.below hbQ
                have Hput0 := hid (Hput0.out _ hbQ)
                have Hput1 := hid (Hput1.out _ hbQ)
                clear F0 F1 F2 k1 k2 k3 a1 a2 a3 a4 a5 a6 a7 a8 a9 a10 a11 a12 a13 a14 hi0 p0 p1 p2 hrb hbQ
                generalize grow (redrawn wr dq) osq = W5 at *
                have p0 := blk_cell hrb5.box 0 (.int .i64 (P : Int)) rfl
                have p1 := blk_cell hrb5.box 1 (.int .i64 (H : Int)) rfl
                have p2 := blk_cell hrb5.box 2 (.slice (some ⟨pb, 0, none⟩) NN NN) rfl
                obtain ⟨KK, hKK⟩ : ∃ KK, y * P + k / 2 = KK := ⟨_, rfl⟩
                have hKKn : KK < NN := by rw [← hKK, HYP.out]; omega
                have hKKi : (YP : Int) + (k : Int) / 2 = (KK : Int) := by rw [← hKK, HYP.out]; omega
                have a1 : IntKind.i64.wrap ((y : Int) * (P : Int)) = (YP : Int) := by rw [HYPi.out]; exact IntWalk.i64_in _ (by omega)
                have a2 : IntKind.i64.wrap ((YP : Int) + (k : Int) / 2) = (KK : Int) := by rw [hKKi]; exact IntWalk.i64_in _ (by omega)
                have a3 : (0 : Int) ≤ (KK : Int) := by omega
                have a4 : (KK : Int) < (NN : Int) := by omega
                have hKl : KK < l2.length := by rw [hrb5.len]; exact hKKn
                obtain ⟨y0, y1⟩ := blk_px hrb5.pix hKl
                generalize l2[KK]'hKl = pxk at y0 y1
                clear hKl
                have z0 := blk_free hrb5.pix (KK * 2)
                have z1 := blk_free hrb5.pix (KK * 2 + 1)
                by_cases hpar : k % 2 = 0
                · have hpt : (((k : Int) % 2) == 0) = true := by simp; omega
                  have HPP := hid (Hput0.out hpar KK hKK hpg)
                  clear hrb5 hKK hKKi
                  go_wp2_with fail
                  go_roundw
                  case rel => exact ⟨k + 1, _, by omega, by go_num, HPP.out⟩
                  case measure => simp [intOf]; omega
                · have hpt : (((k : Int) % 2) == 0) = false := by simp; omega
                  have HPP := hid (Hput1.out (by omega) KK hKK hpg)
                  clear hrb5 hKK hKKi
                  go_wp2_with fail
                  go_roundw
                  case rel => exact ⟨k + 1, _, by omega, by go_num, HPP.out⟩
                  case measure => simp [intOf]; omega
              · obtain rfl : k = 2 * P := by omega
                have hkd : decide (((2 * P : Nat) : Int) < 2 * (P : Int)) = false := by simp
                have hlr := rowOf_len (T.drop (K + 1)) (upI P acc y) way (2 * P)
                have hst := hstp.out
                rw [HK.out] at hst
                have HNX := hid (show RRd w wr g pb P H NN (y + 1) T (acc ++ pairsI (rowOf (T.drop (K + 1)) (upI P acc y) way (2 * P))) l2 from
                  ⟨hrb.box, hrb.pix, hrb.len, hrb.nn, half_row hrb.half hlr, hst, by rw [upI_snoc Hal.out hlr]; exact rowOf_bytes _ _ _ _, hrb.res, hrb.bel⟩)
                clear hrb hst hlr
                go_wp2_with fail
                go_roundw
                case rel => exact ⟨y + 1, _, _, by omega, by go_num, HNX.out⟩
                case measure => simp [intOf]; omega
        · obtain rfl : H = y := by omega
          have hpr := hrd.inv.done
          have hV := hid (picOf_some (s := s.data.toList) (by rw [Hsz.out]; exact h2) Hp0.out Hp1.out ⟨w1, w2, w3, w4⟩ (by rw [HM.out]; exact Hu.out) (by rw [HM.out]; exact Hl.out) hpr)
          have hla := half_done hrd.half hrd.inv.2
          have hR0 := blk_cell hrd.res 0 (.int .i64 0) rfl
          have hR1 := blk_cell hrd.res 1 (.int .i64 0) rfl
          have hR2 := blk_cell hrd.res 2 (.slice none 0 0) rfl
          have f0 := blk_free hrd.res 0
          have f1 := blk_free hrd.res 1
          have f2 := blk_free hrd.res 2
          have hbF := hrd.bel
          have hpx := blk_pixs hrd.pix hrd.len
          have hln := hrd.len
          rw [hla] at hpx hln
          have Hpx := hid hpx
          have Hln := hid hln
          clear hpr hrd hla hpx hln
          go_wp2_with fail
          refine bodyPost_ret (v := .tuple #[.agg #[.int .i64 (P : Int), .int .i64 (H : Int), .slice (some ⟨pb, 0, none⟩) NN NN], .int .i64 0]) (by simp [results, Tryd.results35, go_sem, hR0, hR1, hR2]) rfl ?_
          refine ⟨some ⟨pb, 0, none⟩, NN, by rw [hV.out]; simp only [Hln.out]; rfl, ?_, (fun a ha => by injection ha with ha; subst ha; exact Nat.le_of_lt Hpb.out), ((hbF.setCell (Nat.le_refl _) _).setCell (Nat.le_refl _) _).setCell (Nat.le_refl _) _⟩
          rw [hV.out]
          have hne : 0 < acc.length → ∀ a, (some ⟨pb, 0, none⟩ : Option Addr) = some a → a.block ≠ w.heap.size := fun _ a ha => by
            injection ha with ha; subst ha; have := Hpb.out; show pb ≠ _; omega
          have hp2 := Hpx.out.2
          rw [← Hln.out] at hp2
          exact ⟨rfl, row_set (row_set (row_set hp2 hne) hne) hne⟩
    · have hV := hid (picOf_less (s := s.data.toList) (by rw [Hsz.out]; exact h2) Hp0.out Hp1.out ⟨w1, w2, w3, w4⟩ (by rw [HM.out]; exact Hu.out) (by rw [HM.out]; exact hl))
      have hsT := strOf_size T
      have hne : (T.length : Int) < (M : Int) := by omega
      have e5 : IntKind.i64.wrap ((H : Int) * (1 + 2 * (P : Int))) = (M : Int) := by rw [HMi.out]; exact IntWalk.i64_in _ (by omega)
      go_wp2_with fail
      refine bodyPost_ret (v := .tuple #[.agg #[.int .i64 0, .int .i64 0, .slice none 0 0], .int .i64 4]) (by simp [results, Tryd.results35, go_sem, hR0, hR1, hR2]) rfl ?_
      exact retPicN_bad hV.out (by decide) (((hB1.setCell (Nat.le_refl _) _).setCell (Nat.le_refl _) _).setCell (Nat.le_refl _) _)
  · have hV := hid (picOf_unp (s := s.data.toList) (by rw [Hsz.out]; exact h2) Hp0.out Hp1.out ⟨w1, w2, w3, w4⟩ (by rw [HM.out]; exact Hu.out) hf)
    have hfp : (0 : Int) < (f : Int) := by omega
    have Hf := hid hf
    clear hf
    go_wp2_with fail
    refine bodyPost_ret (v := .tuple #[.agg #[.int .i64 0, .int .i64 0, .slice none 0 0], .int .i64 (f : Int)]) (by simp [results, Tryd.results35, go_sem, hR0, hR1, hR2]) rfl ?_
    exact retPicN_bad hV.out Hf.out (((hB1.setCell (Nat.le_refl _) _).setCell (Nat.le_refl _) _).setCell (Nat.le_refl _) _)
end Fb
