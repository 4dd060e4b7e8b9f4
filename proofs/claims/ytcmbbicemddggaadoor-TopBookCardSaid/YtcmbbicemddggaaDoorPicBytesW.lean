/- picture.Bytes returns what the plain law of pictures' bytes says. Condition: few pixels. -/
import Derived.Test.YtcmbbicemddggaaDoorPicRows
import Derived.Test.YtcmbbicemddggaaDoorChecks
import Derived.Test.YtcmbbicemddggaaDoorBuilderW
import Derived.Test.YtcmbbicemddggaaDoorPackWalk2
import Derived.Test.YtcmbbicemddggaaDoorChunkBytes
set_option linter.unusedSimpArgs false
set_option linter.unusedVariables false
namespace Fb
open Go Go.Proofs Go.RowKit Go.Sort
attribute [local go_sem ↓] Go.wp_at_zero Go.wp_at_succ
def picB (p : FPic) : List UInt8 := if picFault p = 0 then picBytes p else []
def picBV (p : FPic) : Value := .tuple #[.string (strOf (picB p)), errV (picFault p)]
theorem picBV_bad {p : FPic} (h : picFault p ≠ 0) : picBV p = .tuple #[.string ⟨#[]⟩, .iface 63 (.int .i64 (picFault p))] := by
  unfold picBV picB; rw [if_neg h, errV_pos h]; rfl
theorem picBV_ok {p : FPic} (h : picFault p = 0) : picBV p = .tuple #[.string (strOf (picBytes p)), .nilIface] := by
  unfold picBV picB; rw [if_pos h, h]; rfl
/-- rows in memory that stay while a builder is written -/
def RowsOk (W : World) (A : Option Addr) (n : Nat) (rs : List (FAt (List Int))) : Prop := IRows W A n rs ∧ Typed W A n 83 ∧ ∀ r ∈ rs, Typed W r.A r.n 3
theorem RowsOk.below {w w' : World} {A : Option Addr} {n : Nat} {rs : List (FAt (List Int))} (h : RowsOk w A n rs) (hb : Below w.heap.size w w') : RowsOk w' A n rs :=
  ⟨h.1.below hb, h.2.1.below hb, fun r hr => (h.2.2 r hr).below hb⟩
theorem RowsOk.wrote {w w' : World} {A : Option Addr} {n B b : Nat} {l l' : List UInt8} {rs : List (FAt (List Int))} (h : RowsOk w A n rs) (hl : Bld B b l w) (hw : Wrote B b l' w w') : RowsOk w' A n rs := by
  obtain ⟨cb, fb, hb⟩ := hl.block
  have ho := hw.2.2
  refine ⟨⟨h.1.1, h.1.2.1.others h.2.1 ho hb (by decide) (by decide), fun r hr => ⟨(h.1.2.2 r hr).1, (h.1.2.2 r hr).2.others (h.2.2 r hr) ho hb (by decide) (by decide)⟩⟩, h.2.1.others ho hb (by decide) (by decide), fun r hr => (h.2.2 r hr).others ho hb (by decide) (by decide)⟩
/-- the row above, as a slice -/
def upF (rs : List (FAt (List Int))) (y : Nat) : FAt (List Int) := if y = 0 then ⟨[], none, 0, 0⟩ else rs.getD (y - 1) ⟨[], none, 0, 0⟩
theorem upF_ints {w : World} {A : Option Addr} {n y : Nat} {rs : List (FAt (List Int))} (h : RowsOk w A n rs) : Ints w (upF rs y).A (upF rs y).n (upF rs y).x := by
  unfold upF
  split
  · exact ⟨rfl, Row.none_ _ _ _⟩
  · rw [List.getD_eq_getElem?_getD]
    cases e : rs[y - 1]? with
    | none => exact ⟨rfl, Row.none_ _ _ _⟩
    | some r => exact h.1.2.2 r (List.mem_of_getElem? e)
theorem upF_x {P : Nat} {l : List Px} {rs : List (FAt (List Int))} {y : Nat} (hx : ∀ k (h : k < rs.length), rs[k].x = rowI P l k) (hy : y ≤ rs.length) : (upF rs y).x = upI P l y := by
  unfold upF upI
  split
  · rfl
  · rw [List.getD_eq_getElem?_getD, List.getElem?_eq_getElem (by omega), Option.getD_some]; exact hx _ _
theorem upF_succ {rs : List (FAt (List Int))} {y : Nat} (h : y < rs.length) : upF rs (y + 1) = rs[y] := by
  unfold upF
  rw [if_neg (by omega), Nat.add_sub_cancel, List.getD_eq_getElem?_getD, List.getElem?_eq_getElem h, Option.getD_some]
theorem RowsOk.cell {w : World} {A : Option Addr} {n y : Nat} {rs : List (FAt (List Int))} (h : RowsOk w A n rs) (hy : y < rs.length) : ∃ b off, A = some ⟨b, off, none⟩ ∧ w.cell? ⟨b, off + y, none⟩ = some (.slice rs[y].A rs[y].n rs[y].c) := by
  obtain ⟨b, off, e, hb, hc⟩ := h.1.2.1.2 (by have := h.1.1; omega)
  refine ⟨b, off, e, hc y _ ?_⟩
  have := flat_at (enc := irCell) (size := 1) (fun _ => rfl) rs y 0 _ (List.getElem?_eq_getElem hy) (by omega)
  simpa [irCell] using this
theorem ofNat_wrap {n : Nat} (_h : n < 256) : IntKind.u8.wrap (n : Int) = ((UInt8.ofNat n).toNat : Int) := by
  rw [UInt8.toNat_ofNat', IntKind.wrap_u8]; omega
theorem told_cells {h : Nat} {w w' : World} (hk : ∀ k, h ≤ k → w'.heap[k]? = w.heap[k]?) : ∀ k o, h ≤ k → w'.cell? ⟨k, o, none⟩ = w.cell? ⟨k, o, none⟩ :=
  fun k _ hkk => World.cell?_of_block (w := w) (w' := w') (hk k hkk)
theorem conv_two (q0 q1 : UInt8) (W : World) (g : Nat) (h0 : W.cell? ⟨g, 0, none⟩ = some (.int .u8 (q0.toNat : Int))) (h1 : W.cell? ⟨g, 1, none⟩ = some (.int .u8 (q1.toNat : Int))) :
    (convert 55 9 (.slice (some ⟨g, 0, none⟩) 2 2)).run Tryd.prog W = .ok (.string (strOf [q0, q1])) W := by
  refine run_string_row ⟨by simp [byteCells], fun _ => ⟨g, 0, rfl, ?_, fun j u hu => ?_⟩⟩ Tryd.underlying55 Tryd.underlying5 Tryd.underlying9
  · exact World.block_lt_of_cell? W ⟨g, 0, none⟩ h0
  · match j, hu with
    | 0, hu => simp [byteCells] at hu; subst hu; simpa using h0
    | 1, hu => simp [byteCells] at hu; subst hu; simpa using h1
theorem best_less {r up : List Int} {n w : Nat} (h : (pack (toldI r up (w + 1) n)).length < (pack (bestI r up n w).2).length) : (bestI r up n (w + 1)).2 = toldI r up (w + 1) n ∧ (bestI r up n (w + 1)).1 = w + 1 := by rw [bestI_less h]; exact ⟨rfl, rfl⟩
theorem best_more {r up : List Int} {n w : Nat} (h : ¬ (pack (toldI r up (w + 1) n)).length < (pack (bestI r up n w).2).length) : (bestI r up n (w + 1)).2 = (bestI r up n w).2 ∧ (bestI r up n (w + 1)).1 = (bestI r up n w).1 := by rw [bestI_more h]; exact ⟨rfl, rfl⟩
set_option maxRecDepth 100000 in
set_option maxHeartbeats 4000000 in
theorem pbytes_any (r : FAt FPic) (w : World) (hp : Pixs w r.A r.n r.x.p) (hn : r.n ≤ 100) :
    Calls Tryd.prog 32 #[.agg #[.int .i64 r.x.w, .int .i64 r.x.h, .slice r.A r.n r.c]] w (Ret (picBV r.x) w) := by
  obtain ⟨⟨pw, ph, l⟩, A, n, c⟩ := r
  simp only at hp hn ⊢
  have HP := hid hp
  clear hp
  go_enter Tryd.func32, Tryd.ntmps32
  go_upto_region 1 with fail
  obtain ⟨W0, hW0⟩ : ∃ W0, W0 = w.alloc (.cells #[.int .i64 pw, .int .i64 ph, .slice A n c] 46) := ⟨_, rfl⟩
  have hB0 : Below w.heap.size w W0 := by rw [hW0]; exact (Below.refl w.heap.size w).alloc (Nat.le_refl _) _
  have c0 : W0.cell? ⟨w.heap.size, 0, none⟩ = some (.int .i64 pw) := by rw [hW0]; go_simp
  have c1 : W0.cell? ⟨w.heap.size, 1, none⟩ = some (.int .i64 ph) := by rw [hW0]; go_simp
  have c2 : W0.cell? ⟨w.heap.size, 2, none⟩ = some (.slice A n c) := by rw [hW0]; go_simp
  have z0 : w.heap.size < W0.heap.size := by rw [hW0]; simp
  rw [← hW0]
  clear hW0
  go_wp2_with fail
  refine (piccheck_any ⟨⟨pw, ph, l⟩, A, n, c⟩ _ (HP.out.below hB0) hn).mono ?_
  rintro e w1 ⟨rfl, hb⟩
  have hB1 := bnext hB0 hb
  have d0 := held_cellP hb z0 c0
  have d1 := held_cellP hb z0 c1
  have d2 := held_cellP hb z0 c2
  have hz1 := hb.size
  clear hb c0 c1 c2
  by_cases hf : picFault ⟨pw, ph, l⟩ = 0
  · have fr := picFault_fine.1 hf
    have hV := hid (picBV_ok hf)
    rw [hf, errV_zero]
    obtain ⟨f1, f2, f3, f4, -, -⟩ := id fr
    simp only at f1 f2 f3 f4
    obtain ⟨P, rfl⟩ : ∃ P : Nat, pw = (P : Int) := ⟨pw.toNat, by omega⟩
    obtain ⟨H, rfl⟩ : ∃ H : Nat, ph = (H : Int) := ⟨ph.toNat, by omega⟩
    have Hfr := hid fr
    clear hf fr
    go_upto_region 6 with fail
    have hbl := Bld.fresh w1
    obtain ⟨W2, hW2⟩ : ∃ W2, W2 = w1.alloc (.cells #[.pointer none, .slice none 0 0] 57) := ⟨_, rfl⟩
    rw [← hW2] at hbl ⊢
    have hb : Below w1.heap.size w1 W2 := by rw [hW2]; exact (Below.refl _ _).alloc (Nat.le_refl _) _
    have hB2 := bnext hB1 hb
    have zz : w.heap.size < w1.heap.size := by omega
    have c0 := held_cellP hb zz d0
    have c1 := held_cellP hb zz d1
    have c2 := held_cellP hb zz d2
    have hz2 : w1.heap.size < W2.heap.size := by rw [hW2]; simp
    have HB12 := hid hb
    clear hb hW2 d0 d1 d2
    go_wp2_with fail
    refine (rows_any ⟨⟨(P : Int), (H : Int), l⟩, A, n, c⟩ _ (HP.out.below hB2) Hfr.out).mono ?_
    rintro e w3 ⟨A3, c3, rs, rfl, hir, hty, hrx, hb3⟩
    simp only [Int.toNat_natCast] at hir hrx hty ⊢
    have hro : RowsOk w3 A3 H rs := ⟨hir, hty⟩
    have hrl := hir.1
    have Hrx := hid hrx
    have Hrl := hid hrl
    have hbl3 := hbl.below hb3
    have hz3 := hb3.size
    have HB3 := hid hb3
    clear hir hty hrx hrl hbl
    go_wp2_with fail
    go_loopw [6, 21] (fun u i wr => ∃ y : Nat, y ≤ H ∧ i = .int .i64 y ∧ u = .slice (upF rs y).A (upF rs y).n (upF rs y).c ∧ Bld w1.heap.size w1.heap.size (rowsI P l y) wr ∧ RowsOk wr A3 H rs ∧ Below w1.heap.size w3 wr) (fun _ i _ => H - (intOf i).toNat)
    case atStart => exact ⟨0, by omega, rfl, rfl, hbl3, hro, Below.refl _ _⟩
    case round =>
      obtain ⟨y, hy, rfl, rfl, hbd, hok, hbel⟩ := hrel
      by_cases hlt : y < H
      · have hyr : y < rs.length := by rw [Hrl.out]; exact hlt
        obtain ⟨b3, o3, rfl, hc3⟩ := hok.cell hyr
        have hri := hok.1.2.2 rs[y] (List.getElem_mem hyr)
        have hux := upF_x (y := y) Hrx.out (by omega)
        have hus := upF_succ hyr
        have hui := upF_ints (y := y) hok
        have hPH : (y + 1) * P ≤ l.length := by
          have h5 := Hfr.out.2.2.2.2.1
          simp only at h5
          have h6 : ((l.length : Nat) : Int) = ((P * H : Nat) : Int) := by rw [h5]; simp
          have h7 : (y + 1) * P ≤ H * P := Nat.mul_le_mul_right _ hlt
          rw [Nat.mul_comm H P] at h7
          omega
        have hrx := Hrx.out y hyr
        have hrn : rs[y].n = 2 * P := by rw [← hri.1, hrx]; exact rowI_len hPH
        rw [hrx] at hri
        rw [hux] at hui
        have hun : (upF rs y).n ≤ 2 * P := by
          rw [← hui.1]
          unfold upI
          split
          · simp
          · unfold rowI; rw [flatPx_len, List.length_take]; omega
        have Hus := hid hus
        clear hus hux hrx hPH
        generalize hR : rs[y] = R at *
        generalize hU : upF rs y = U at *
        obtain ⟨Rx, RA, Rn, Rc⟩ := R
        obtain ⟨Ux, UA, Un, Uc⟩ := U
        simp only at hri hui hrn hun hc3 ⊢
        subst hrn
        have Hok := hid hok
        have Hbd := hid hbd
        have Hri := hid hri
        have Hui := hid hui
        have Hby1 := hid (rowI_bytes (W := P) (y := y) Hfr.out.2.2.2.2.2)
        have Hby2 := hid (upI_bytes (W := P) (y := y) Hfr.out.2.2.2.2.2)
        simp only at Hby1 Hby2
        have y1 : (0 : Int) ≤ (y : Int) := by omega
        have y2 : (y : Int) < (H : Int) := by omega
        obtain ⟨X, hX⟩ : ∃ X, rowI P l y = X := ⟨_, rfl⟩
        obtain ⟨Y, hY⟩ : ∃ Y, upI P l y = Y := ⟨_, rfl⟩
        have HE := hid (show encI P l y = UInt8.ofNat (bestI X Y (2 * P) 3).1 :: (bestI X Y (2 * P) 3).2 by rw [← hX, ← hY]; rfl)
        rw [hX] at Hri Hby1
        rw [hY] at Hui Hby2
        have HtL := hid (fun k => toldI_len X Y k (2 * P))
        have HbL := hid (fun k => (bestI_at X Y (2 * P) k))
        have Hb0 := hid (show bestI X Y (2 * P) 0 = (0, toldI X Y 0 (2 * P)) from rfl)
        clear hok hbd hri hui hX hY hR hU
        go_wp2_with fail
        refine (told_any RA UA (2 * P) Un Rc Uc X Y 0 _ Hri.out Hui.out (by omega) (by omega) (by omega) Hby1.out Hby2.out).mono ?_
        rintro e w4 ⟨rfl, hb4⟩
        obtain ⟨wo, rfl⟩ : ∃ wo : World, wo = wr := ⟨_, rfl⟩
        have HB4 := hid hb4
        clear hb4 hc3
        go_wp2_with fail
        go_loopw [9, 10, 11] (fun bs wy k wi => ∃ v : Nat, v ≤ 3 ∧ k = .int .i64 ((v + 1 : Nat) : Int) ∧ bs = .string (strOf (bestI X Y (2 * P) v).2) ∧ wy = .int .i64 ((bestI X Y (2 * P) v).1 : Int) ∧ Below wo.heap.size wo wi) (fun _ _ k _ => 4 - (intOf k).toNat)
        case atStart => exact ⟨0, by omega, rfl, by rw [Hb0.out], by rw [Hb0.out]; rfl, HB4.out⟩
        case round =>
          clear HB4
          obtain ⟨v, hv, rfl, rfl, rfl, hbi⟩ := hrel
          have hbest := HbL.out v
          have hbl := HtL.out (bestI X Y (2 * P) v).1
          rw [← hbest.2] at hbl
          have hb1 := hbest.1
          have HBI := hid hbi
          clear hbest hbi
          by_cases hv3 : v < 3
          · have v1 : ((v + 1 : Nat) : Int) < 4 := by omega
            have Hless := hid (best_less (r := X) (up := Y) (n := 2 * P) (w := v))
            have Hmore := hid (best_more (r := X) (up := Y) (n := 2 * P) (w := v))
            have htl := HtL.out (v + 1)
            have ct := fun W (h : Below wo.heap.size wo W) => told_any RA UA (2 * P) Un Rc Uc X Y (v + 1) W (Hri.out.below h) (Hui.out.below h) (by omega) (by omega) (by omega) Hby1.out Hby2.out
            have Hct := hid ct
            clear ct
            generalize toldI X Y (v + 1) (2 * P) = T at *
            generalize (bestI X Y (2 * P) v).2 = Bs at *
            generalize (bestI X Y (2 * P) v).1 = bw at *
            have hpT := pack_len _ T (Nat.le_refl _)
            have hpB := pack_len _ Bs (Nat.le_refl _)
            go_wp2_with fail
            refine (guesses_at 0 (by omega) _).mono ?_
            rintro e w5 ⟨gg, rfl, -, -, hb5⟩
            have HB5 := hid (bnext HBI.out hb5)
            clear hb5
            go_wp2_with fail
            refine (Hct.out _ HB5.out).mono ?_
            rintro e w6 ⟨rfl, hb6⟩
            have HB6 := hid (bnext HB5.out hb6)
            clear hb6
            go_wp2_with fail
            refine (pack_any (strOf T) _ (by rw [strOf_size]; omega)).mono ?_
            rintro e w7 ⟨rfl, hb7⟩
            rw [strOf_data']
            have HB7 := hid (bnext HB6.out hb7)
            clear hb7
            go_wp2_with fail
            refine (pack_any (strOf Bs) _ (by rw [strOf_size]; omega)).mono ?_
            rintro e w8 ⟨rfl, hb8⟩
            rw [strOf_data']
            have HB8 := hid (bnext HB7.out hb8)
            clear hb8
            have hs1 := strOf_size (pack T)
            have hs2 := strOf_size (pack Bs)
            by_cases hle : (pack T).length < (pack Bs).length
            · have Hn := hid (Hless.out hle)
              have hle' : ((strOf (pack T)).size : Int) < ((strOf (pack Bs)).size : Int) := by rw [hs1, hs2]; omega
              clear hs1 hs2 hle hpT hpB
              go_wp2_with fail
              go_roundw
              case rel => exact ⟨v + 1, by omega, by go_num, by rw [Hn.out.1], by rw [Hn.out.2]; try go_num, HB8.out⟩
              case measure => simp [intOf]; omega
            · have Hn := hid (Hmore.out hle)
              have hle' : ¬ ((strOf (pack T)).size : Int) < ((strOf (pack Bs)).size : Int) := by rw [hs1, hs2]; omega
              clear hs1 hs2 hle hpT hpB
              go_wp2_with fail
              go_roundw
              case rel => exact ⟨v + 1, by omega, by go_num, by rw [Hn.out.1], by rw [Hn.out.2]; try go_num, HB8.out⟩
              case measure => simp [intOf]; omega
          · obtain rfl : 3 = v := by omega
            have v1 : ¬ ((3 + 1 : Nat) : Int) < 4 := by omega
            clear Hb0 HbL HtL
            generalize (bestI X Y (2 * P) 3).2 = Bs at *
            generalize (bestI X Y (2 * P) 3).1 = bw at *
            have hcw := ofNat_wrap (n := bw) (by omega)
            generalize UInt8.ofNat bw = cw at *
            go_wp2_with fail
            refine (guesses_at 0 (by omega) _).mono ?_
            rintro e w5 ⟨gg, rfl, -, -, hb5⟩
            have HB5 := hid (bnext HBI.out hb5)
            clear hb5
            have hrl := rowsI_len P l y
            have hbY : (rowsI P l y).length ≤ 1000 := by
              rw [hrl]
              have : y * (1 + 2 * P) ≤ 8 * 17 := Nat.mul_le_mul (by omega) (by omega)
              omega
            clear hrl
            have hB15 : w1.heap.size ≤ w5.heap.size := by
              have h1 := HB5.out.size; have h2 := hbel.size; omega
            have Hbd5 := hid (Hbd.out.below HB5.out)
            have Hok5 := hid (Hok.out.below HB5.out)
            go_wp2_with fail

            clear hcw
            refine (wbyte_any _ _ _ cw _ Hbd5.out (by omega) hB15).mono ?_
            rintro e w6 ⟨rfl, hw6⟩
            have Hok6 := hid (Hok5.out.wrote Hbd5.out hw6)
            have hB6 : Below w1.heap.size w3 w6 := (hbel.trans (HB5.out.mono (by have h2 := hbel.size; omega))).trans hw6.2.1
            have hB16 : w1.heap.size ≤ w6.heap.size := by have h1 := hw6.2.1.size; omega
            have Hbd6 := hid hw6.bld
            clear hw6
            go_wp2_with fail
            refine (wstring_any _ _ _ Bs _ Hbd6.out (by rw [List.length_append]; simp; omega) hB16).mono ?_
            rintro e w7 ⟨rfl, hw7⟩
            have Hok7 := hid (Hok6.out.wrote Hbd6.out hw7)
            have hB7 : Below w1.heap.size w3 w7 := hB6.trans hw7.2.1
            have Hbd7 := hid (show Bld w1.heap.size w1.heap.size (rowsI P l (y + 1)) w7 by
              rw [rowsI_succ, HE.out]
              have h := hw7.bld
              rw [List.append_assoc] at h
              exact h)
            clear hw7 hB6
            go_wp2_with fail
            go_roundw
            case rel => exact ⟨y + 1, by omega, by go_num, by rw [Hus.out], Hbd7.out, Hok7.out, hB7⟩
            case measure => simp [intOf]; omega
      · obtain rfl : H = y := by omega
        have hlR := rowsI_len P l H
        have hbR : (rowsI P l H).length ≤ 1000 := by
          rw [hlR]
          have : H * (1 + 2 * P) ≤ 8 * 17 := Nat.mul_le_mul (by omega) (by omega)
          omega
        have hne : rowsI P l H ≠ [] := by
          intro e
          rw [e] at hlR
          have h1 : 1 * 1 ≤ H * (1 + 2 * P) := Nat.mul_le_mul (by omega) (by omega)
          simp only [List.length_nil] at hlR
          omega
        have hpk := pack_len _ (rowsI P l H) (Nat.le_refl _)
        have HV2 := hid (show picBV ⟨(P : Int), (H : Int), l⟩ = .tuple #[.string (strOf ([UInt8.ofNat P, UInt8.ofNat H] ++ pack (rowsI P l H))), .nilIface] by
          rw [hV.out]; unfold picBytes; simp only [Int.toNat_natCast])
        have u0 := ofNat_wrap (n := P) (by omega)
        have u1 := ofNat_wrap (n := H) (by omega)
        generalize rowsI P l H = R at *
        generalize UInt8.ofNat P = q0 at *
        generalize UInt8.ofNat H = q1 at *
        have z3 : w1.heap.size ≤ w3.heap.size := by omega
        have z4 := hbel.size
        have z5 : w1.heap.size ≤ wr.heap.size := by omega
        have e0 := (hbel.cell (p := ⟨w.heap.size, 0, none⟩) (by show w.heap.size < _; omega)).trans ((hb3.cell (p := ⟨w.heap.size, 0, none⟩) (by show w.heap.size < _; omega)).trans c0)
        have e1 := (hbel.cell (p := ⟨w.heap.size, 1, none⟩) (by show w.heap.size < _; omega)).trans ((hb3.cell (p := ⟨w.heap.size, 1, none⟩) (by show w.heap.size < _; omega)).trans c1)
        have HBF := hid ((bnext hB2 hb3).trans (hbel.mono (by omega)))
        have Hbd := hid hbd
        have Hne := hid hne
        have happ := strOf_append
        have hsz2 : (strOf [q0, q1]).size + (strOf (pack R)).size ≤ 1000000 := by rw [strOf_size, strOf_size]; simp; omega
        have hsz3 : ¬ 9223372036854775807 < (strOf [q0, q1]).size + (strOf (pack R)).size := by omega
        clear hsz2
        have hcv := conv_two q0 q1
        have hpk2 := fun W => pack_any (strOf R) W (by rw [strOf_size]; omega)
        rw [strOf_data'] at hpk2
        have Hpk := hid hpk2
        clear hpk2
        have hlR' : (strOf R).size ≤ 1000000 := by rw [strOf_size]; omega
        clear hV Hfr c0 c1 c2 hro hbl3 HB3 hok hbel hbd hne hlR hb3 Hrx Hrl HB12 hlt
        go_upto_region 20 with fail
        have HBW0 : Below wr.heap.size wr wr.drew := (Below.refl _ _).drew
        have e0' : wr.drew.cell? ⟨w.heap.size, 0, none⟩ = some (.int .i64 (P : Int)) := e0
        have e1' : wr.drew.cell? ⟨w.heap.size, 1, none⟩ = some (.int .i64 (H : Int)) := e1
        have ltw : w.heap.size < wr.heap.size := by omega
        clear e0 e1
        go_region_law
          (go_simp; (first
            | (go_at_call 19; (with_reducible refine (bstring_any _ _ R wr _ Hbd.out (by (repeat (first | with_reducible exact Below.refl _ _ | with_reducible refine Below.alloc ?_ (by first | omega | (simp; done) | (simp; omega)) _ | with_reducible refine below_drewN ?_ _ | with_reducible refine Below.drew ?_))) Hne.out).mono ?_); rintro e w' ⟨rfl, hbs, hsz, hkp⟩; have HB1 : Below w1.heap.size wr w' := Below.trans (b := _) (by (repeat (first | with_reducible exact Below.refl _ _ | with_reducible refine Below.alloc ?_ (by first | omega | (simp; done) | (simp; omega)) _ | with_reducible refine below_drewN ?_ _ | with_reducible refine Below.drew ?_))) hbs; have n0 := (HB1.cell (p := ⟨w.heap.size, 0, none⟩) zz).trans e0'; have n1 := (HB1.cell (p := ⟨w.heap.size, 1, none⟩) zz).trans e1'; have hkc := told_cells hkp; have hlw : w.heap.size < w'.heap.size := Nat.lt_of_lt_of_le ltw HB1.size; simp at hsz; clear hbs hkp)
            | (go_at_call 53; (with_reducible refine (Hpk.out _).mono ?_); rintro e w'' ⟨rfl, hbp⟩; have hb1s := HB1.size; have HB2 : Below w1.heap.size wr w'' := Below.trans (b := _) (by have hB := HB1; (have hBs := hB.size; repeat (first | with_reducible exact hB | with_reducible refine Below.alloc ?_ (by first | omega | (simp; done) | (simp; omega)) _ | with_reducible refine below_drewN ?_ _ | with_reducible refine Below.drew ?_))) (hbp.mono (by first | omega | (simp; omega))); have n2 := (HB2.cell (p := ⟨w.heap.size, 0, none⟩) zz).trans e0'; have n3 := (HB2.cell (p := ⟨w.heap.size, 1, none⟩) zz).trans e1'; obtain ⟨hcp, -⟩ := bcell hbp; clear hbp)))
        all_goals (clear hkc hcp hsz n0 n1 n2 n3 hsz3 hcv e0' e1' u0 u1)
        all_goals (go_wp2_with fail)
        all_goals go_ret2
        all_goals exact ⟨ret_eq' HV2.out, HBF.out.trans (by have hB := HB2.mono (Nat.le_of_lt zz); (have hBs := hB.size; repeat (first | with_reducible exact hB | with_reducible refine Below.alloc ?_ (by first | omega | (simp; done) | (simp; omega)) _ | with_reducible refine below_drewN ?_ _ | with_reducible refine Below.drew ?_)))⟩
  · have hV := hid (picBV_bad hf)
    rw [errV_pos hf]
    have hne : ((picFault ⟨pw, ph, l⟩ : Nat) : Int) = ((picFault ⟨pw, ph, l⟩ : Nat) : Int) := rfl
    clear hne hf
    go_wp2_with fail
    go_ret2
    exact ⟨ret_eq' hV.out, hB1⟩
end Fb
