/- objects.Seen: it returns what the plain law says. Conditions: objects that may be, sides from 1 to 8, a pixel that may be. ref.SeenOf: it returns what the plain law says. Conditions: objects that may be, sides from 1 to 8, a pixel that may be. -/
import Derived.Test.YtgkemeclpidmcaaObjsSeenLaw
import Derived.Test.YtgkemeclpidmcaaLay
import Derived.Test.YtgkemeclpidmcaaLaid
import Derived.Test.YtgkemeclpidmcaaPlainA
namespace Fb
open Go Go.Proofs Go.RowKit Go.Sort
set_option maxRecDepth 100000 in
set_option maxHeartbeats 3200000 in
theorem seen_any (A : Option Addr) (n c : Nat) (rs : List (FAt FObj)) (X Y : Nat) (back : Px) (w : World) (h : Objs w A n rs) (hf : ∀ r ∈ rs, ObjFine r.x) (hn : n ≤ 1000) (hX : 1 ≤ X) (hX8 : X ≤ 8) (hY : 1 ≤ Y) (hY8 : Y ≤ 8) (hb : PxFine back) :
    Calls Try.prog 56 #[.slice A n c, .int .i64 X, .int .i64 Y, .agg #[.int .i64 back.1, .int .i64 back.2]] w (RetPic (seenP (dat rs) X Y back) w) := by
  have Hl := hid h.1
  have HO := hid h
  have HF := hid hf
  have Hb := hid hb
  clear h hf hb
  go_enter Try.func56, Try.ntmps56
  go_wp2_with fail
  obtain ⟨W0, hW0⟩ : ∃ W0, W0 = ((w.alloc (.cells #[.int .i64 back.1, .int .i64 back.2] 42)).alloc (.cells #[.int .i64 0, .int .i64 0, .slice none 0 0] 49)) := ⟨_, rfl⟩
  have hB0 : Below w.heap.size w W0 := by rw [hW0]; exact ((Below.refl w.heap.size w).alloc (Nat.le_refl _) _).alloc (by simp) _
  have z0 : w.heap.size + 2 = W0.heap.size := by rw [hW0]; simp
  have BT : Hid (PicBox W0 (w.heap.size + 1) 0 0 none 0 0) := by show PicBox _ _ _ _ _ _ _; rw [hW0]; refine ⟨?_, ?_, ?_, ?_, ?_⟩ <;> (try intro o) <;> (first | (go_simp; done) | simp)
  rw [← hW0]
  clear hW0
  obtain ⟨N, hN⟩ : ∃ N, N = X * Y := ⟨_, rfl⟩
  have hN1 : 1 ≤ N := by rw [hN]; exact Nat.mul_le_mul hX hY
  have Hsh := hid (fun k => seenK_shape (dat rs) X Y back k)
  rw [← hN] at Hsh
  have Hfin := hid (fun k => seenK_fine (l := dat rs) k hX hX8 hY hY8 Hb.out (fun o ho => by
    obtain ⟨r, hr, rfl⟩ := List.mem_map.1 ho
    exact HF.out r hr))
  have hpl := plain_any X Y back W0 hX (by omega) hY (by omega)
  rw [show plainP X Y back = seenK (dat rs) X Y back 0 from rfl, (Hsh.out 0).1] at hpl
  have Hpl := hid (hpl.mono fun e w' h => ret_n (Hsh.out 0).2 h)
  clear hpl hN
  refine Hpl.out.mono ?_
  rintro e w1 ⟨pA, pc, rfl, hp, hnew, hb1⟩
  have hB1 : Below w.heap.size w w1 := bnext hB0 hb1
  have BT1 := hid (BT.out.below hb1 (by omega))
  have z1 : w.heap.size + 2 ≤ w1.heap.size := by have := hb1.size; omega
  have HP := hid hp
  have HN := hid (show ∀ a, pA = some a → w1.heap.size ≠ a.block ∧ w.heap.size + 2 ≤ a.block from fun a ha => by
    have h1 := pixs_blk_lt hp hN1 ha
    have h2 := hnew a ha
    exact ⟨by omega, by omega⟩)
  clear hp hnew hb1 BT Hpl
  go_wp2_with fail
  obtain ⟨g9, hg9⟩ : ∃ g, g = w1.heap.size := ⟨_, rfl⟩
  obtain ⟨W2, hW2⟩ : ∃ W2, W2 = w1.alloc (.cells #[.int .i64 X, .int .i64 Y, .slice pA N pc] 49) := ⟨_, rfl⟩
  have hB2 : Below w.heap.size w W2 := by rw [hW2]; exact hB1.alloc hB1.size _
  have BX : Hid (PicBox W2 g9 X Y pA N pc) := by show PicBox _ _ _ _ _ _ _; rw [hW2, hg9]; refine ⟨?_, ?_, ?_, ?_, ?_⟩ <;> (try intro o) <;> (first | (go_simp; done) | simp)
  have b12 : Below w1.heap.size w1 W2 := by rw [hW2]; exact (Below.refl _ _).alloc (Nat.le_refl _) _
  have BT2 := hid (BT1.out.below b12 (by omega))
  have HP2 := hid (HP.out.below b12)
  rw [← hg9] at HN
  rw [← hW2, ← hg9]
  have z9 : w.heap.size + 2 ≤ g9 := by omega
  clear hW2 hg9 b12 BT1 HP hB1 z1
  go_loopw [18, 11] (fun i _ wr => ∃ (k : Nat) (A' : Option Addr) (c' : Nat), k ≤ n ∧ i = .int .i64 k ∧ Hid (PicBox wr g9 X Y A' N c') ∧ Hid (Pixs wr A' N (seenK (dat rs) X Y back k).p) ∧ Hid (∀ a, A' = some a → g9 ≠ a.block ∧ w.heap.size + 2 ≤ a.block) ∧ Hid (PicBox wr (w.heap.size + 1) 0 0 none 0 0) ∧ Below w.heap.size w wr) (fun i _ _ => n - (intOf i).toNat)
  case atStart => exact ⟨0, pA, pc, by omega, rfl, BX, HP2, HN, BT2, hB2⟩
  case round =>
    clear BX HP2 HN BT2 hB2
    obtain ⟨k, A', c', hk, rfl, HBX, HPX, HNE, HBT, hbel⟩ := hrel
    obtain ⟨c0, c1, c2, cf, cz⟩ := HBX.out
    by_cases hlt : k < n
    · have k1 : k < rs.length := by rw [Hl.out]; exact hlt
      obtain ⟨b, off, rfl, hbs, hc⟩ := HO.out.open_ (by omega)
      obtain ⟨d0, d1, d2, d3, d4, d5, d6, d7, d8, d9, d10⟩ := hc.cells hbel hbs k1
      have q2 : (k : Int) < (n : Int) := by omega
      have hsu := seenK_succ (l := dat rs) (X := X) (Y := Y) (back := back) (k := k) (by rw [dat_len]; exact k1)
      rw [dat_at k1, (Hsh.out k).1] at hsu
      have hfk := Hfin.out k
      rw [(Hsh.out k).1] at hfk
      have hpo := (HO.out.2.2 rs[k] (List.getElem_mem k1)).below hbel
      have hfo := HF.out rs[k] (List.getElem_mem k1)
      have hcall := fun W (hb : Below wr.heap.size wr W) => lay_any ⟨⟨X, Y, (seenK (dat rs) X Y back k).p⟩, A', N, c'⟩ rs[k] W (HPX.out.below hb) (hpo.below hb) hfk hfo
      rw [← hsu, (Hsh.out (k + 1)).1] at hcall
      have Hcall := hid (fun W hb => (hcall W hb).mono fun e w' h => ret_n (Hsh.out (k + 1)).2 h)
      clear hcall hsu hfk hpo hfo hc
      generalize rs[k] = q at *
      clear k1
      go_wp2_with fail
      refine (Hcall.out _ (by (repeat (first | with_reducible exact Below.refl _ _ | with_reducible refine Below.alloc ?_ (by simp; try omega) _ | with_reducible refine Below.setCell ?_ (by simp; try omega) _ | with_reducible refine below_drewN ?_ _ | with_reducible refine Below.drew ?_)))).mono ?_
      rintro e w3 ⟨A3, c3, rfl, hp3, hn3, hb3⟩
      have hb3' : Below wr.heap.size wr w3 := ((Below.refl wr.heap.size wr).alloc (Nat.le_refl _) _).trans (hb3.mono (by simp))
      have z3 : wr.heap.size < w3.heap.size := by have := hb3.size; simp at this; omega
      have HX3 := hid (HBX.out.below hb3' cz)
      have HT3 := hid (putBox_below X Y A3 N c3 (bnext hbel hb3') (show w.heap.size ≤ g9 by omega))
      have hpp := hid (putBox_pixs (g := g9) (pw := X) (ph := Y) (n := N) (c := c3) (A := A3) hp3 (fun a ha => by have := hn3 a ha; simp at this; omega))
      have hne3 := hid (show ∀ a, A3 = some a → g9 ≠ a.block ∧ w.heap.size + 2 ≤ a.block from fun a ha => by
        have h1 := hn3 a ha
        have h2 := hbel.size
        simp at h1
        exact ⟨by omega, by omega⟩)
      have hpb := hid (putBox_is (pw' := X) (ph' := Y) (A' := A3) (n' := N) (c' := c3) HX3.out)
      have hpt := hid (putBox_keep (g' := w.heap.size + 1) X Y A3 N c3 (HBT.out.below hb3' HBT.out.2.2.2.2) (show g9 ≠ w.heap.size + 1 by omega))
      clear c0 c1 c2 cf d0 d1 d2 d3 d4 d5 d6 d7 d8 d9 d10 hp3 hn3 hb3 hb3' Hcall HBX HPX HNE HBT
      obtain ⟨c0, c1, c2, cf, cz3⟩ := HX3.out
      unfold putBox at HT3 hpp hpb hpt
      go_wp2_with fail
      go_roundw
      case rel => exact ⟨k + 1, A3, c3, by omega, by go_num, hpb, hpp, hne3, hpt, HT3.out⟩
      case measure => simp [intOf]; omega
    · obtain rfl : k = n := by omega
      have hall := hid (show seenK (dat rs) X Y back k = seenP (dat rs) X Y back from seenK_all (by rw [dat_len, Hl.out]; omega))
      obtain ⟨t0, t1, t2, tf, tz⟩ := HBT.out
      have hsh := hid (Hsh.out k)
      have gne : g9 ≠ w.heap.size + 1 := by omega
      go_wp2_with fail
      refine bodyPost_ret (v := .agg #[.int .i64 X, .int .i64 Y, .slice A' N c']) (by simp [results, Try.results56, go_sem, t0, t1, t2]) rfl ?_
      have hl2 := hsh.out.2
      rw [← hall.out, hsh.out.1]
      refine ⟨A', c', by simp only; rw [hl2], ?_, fun a ha => by have := (HNE.out a ha).2; omega, ?_⟩
      · simp only
        rw [hl2]
        exact putBox_pixs (pw := X) (ph := Y) (n := N) (c := c') (A := A') HPX.out (fun a ha => by have := (HNE.out a ha).2; omega)
      · exact putBox_below X Y A' N c' hbel (show w.heap.size ≤ w.heap.size + 1 by omega)
end Fb
namespace Fb
open Go Go.Proofs Go.RowKit Go.Sort
theorem rep_snoc (i : Nat) (x : Px) : pxCells (List.replicate i x) ++ [.int .i64 x.1, .int .i64 x.2] = pxCells (List.replicate (i + 1) x) := by
  rw [List.replicate_succ']
  unfold pxCells
  rw [List.flatMap_append]
  rfl
set_option maxRecDepth 100000 in
set_option maxHeartbeats 3200000 in
theorem rseen_any (A : Option Addr) (n c : Nat) (rs : List (FAt FObj)) (X Y : Nat) (back : Px) (w : World) (h : Objs w A n rs) (hf : ∀ r ∈ rs, ObjFine r.x) (hn : n ≤ 1000) (hX : 1 ≤ X) (hX8 : X ≤ 8) (hY : 1 ≤ Y) (hY8 : Y ≤ 8) (hb : PxFine back) :
    Calls Try.prog 39 #[.slice A n c, .int .i64 X, .int .i64 Y, .agg #[.int .i64 back.1, .int .i64 back.2]] w (RetPic (seenP (dat rs) X Y back) w) := by
  have Hl := hid h.1
  have HO := hid h
  have HF := hid hf
  have Hb := hid hb
  obtain ⟨i0, hi, hz0, hz1, hz2⟩ := info_parts info_px
  clear h hf hb
  obtain ⟨N, hN⟩ : ∃ N, N = X * Y := ⟨_, rfl⟩
  have hN1 : 1 ≤ N := by rw [hN]; exact Nat.mul_le_mul hX hY
  have hN2 : N ≤ 64 := by rw [hN]; exact Nat.mul_le_mul hX8 hY8
  have Hsh := hid (fun k => seenK_shape (dat rs) X Y back k)
  rw [← hN] at Hsh
  have Hfin := hid (fun k => seenK_fine (l := dat rs) k hX hX8 hY hY8 Hb.out (fun o ho => by
    obtain ⟨r, hr, rfl⟩ := List.mem_map.1 ho
    exact HF.out r hr))
  have hxy : (X : Int) * (Y : Int) = (N : Int) := by rw [hN]; exact (Int.natCast_mul X Y).symm
  have hmul : IntKind.i64.wrap ((X : Int) * (Y : Int)) = (N : Int) := by rw [hxy]; exact IntWalk.i64_in _ (by omega)
  have Hrep := hid (show (seenK (dat rs) X Y back 0).p = List.replicate N back by rw [hN]; rfl)
  clear hN
  go_enter Try.func39, Try.ntmps39
  go_wp2_with fail
  obtain ⟨W0, hW0⟩ : ∃ W0, W0 = (((w.alloc (.cells #[.int .i64 back.1, .int .i64 back.2] 42)).alloc (.cells #[.int .i64 0, .int .i64 0, .slice none 0 0] 49)).alloc (.cells #[.int .i64 X, .int .i64 Y, .slice none 0 0] 49)) := ⟨_, rfl⟩
  obtain ⟨g9, hg9⟩ : ∃ g, g = w.heap.size + 1 + 1 := ⟨_, rfl⟩
  have hB0 : Below w.heap.size w W0 := by rw [hW0]; exact (((Below.refl w.heap.size w).alloc (Nat.le_refl _) _).alloc (by simp) _).alloc (by simp; omega) _
  have z0 : g9 + 1 = W0.heap.size := by rw [hW0, hg9]; simp
  have BT : Hid (PicBox W0 (w.heap.size + 1) 0 0 none 0 0) := by show PicBox _ _ _ _ _ _ _; rw [hW0]; refine ⟨?_, ?_, ?_, ?_, ?_⟩ <;> (try intro o) <;> (first | (go_simp; done) | simp)
  have BX : Hid (PicBox W0 g9 X Y none 0 0) := by show PicBox _ _ _ _ _ _ _; rw [hW0, hg9]; refine ⟨?_, ?_, ?_, ?_, ?_⟩ <;> (try intro o) <;> (first | (go_simp; done) | simp)
  have BK : Hid (W0.cell? ⟨w.heap.size, 0, none⟩ = some (.int .i64 back.1) ∧ W0.cell? ⟨w.heap.size, 1, none⟩ = some (.int .i64 back.2)) := by show _ ∧ _; rw [hW0]; constructor <;> go_simp
  rw [← hW0, ← hg9]
  have z9 : w.heap.size + 2 = g9 := by omega
  clear hW0 hg9
  go_loopw [10] (fun i wr => ∃ (k : Nat) (A' : Option Addr) (c' : Nat), k ≤ N ∧ i = .int .i64 k ∧ Hid (PicBox wr g9 X Y A' k c') ∧ Hid (wr.ownsRow W0.heap.size 42 2 (.slice A' k c') k (pxCells (List.replicate k back))) ∧ Hid (Below g9 W0 wr) ∧ W0.heap.size ≤ wr.heap.size) (fun i _ => N - (intOf i).toNat)
  case atStart => exact ⟨0, none, 0, by omega, rfl, BX, hid (World.ownsRow_nil _ _ _ _), hid (Below.refl _ _), Nat.le_refl _⟩
  case round =>
    clear BX
    obtain ⟨k, A', c', hk, rfl, HBX, HOW, HBL, hzr⟩ := hrel
    obtain ⟨x0, x1, x2, xf, xz⟩ := HBX.out
    have y0 := (HBL.out.cell (p := ⟨w.heap.size, 0, none⟩) (show w.heap.size < g9 by omega)).trans BK.out.1
    have y1 := (HBL.out.cell (p := ⟨w.heap.size, 1, none⟩) (show w.heap.size < g9 by omega)).trans BK.out.2
    by_cases hlt : k < N
    · have q2 : (k : Int) < (N : Int) := by omega
      have wk : IntKind.i64.wrap ((k : Int) + 1) = (k : Int) + 1 := IntWalk.i64_in _ (by omega)
      have hsn := hid (rep_snoc k back)
      go_wp2_with (at_builtin; refine wpList_append_own _ rfl _ _ 47 rfl W0.heap.size 42 i0 (.agg #[.int .i64 0, .int .i64 0]) 2 16 Try.underlying47 hi hz0 hz1 hz2 rfl (by decide) _ _ _ rfl (World.ownsRow.alloc HOW.out _) ⟨wr.heap.size, 0, none⟩ 1 1 [.int .i64 back.1, .int .i64 back.2] rfl rfl (fun j u hu => new_cells _ #[.int .i64 back.1, .int .i64 back.2] 42 j u hu) (fun u hu => by simp at hu; rcases hu with rfl | rfl <;> rfl) (by unfold maxLen; omega) (by omega) (by simp; omega) ?_)
      intro v1 w1 hown1 hgrow1 _
      obtain ⟨A1, c1, rfl, hA1, hc1, hcm1⟩ := own_slice hown1
      rw [hsn.out] at hown1
      have hb1 : Below W0.heap.size wr w1 := ((Below.refl W0.heap.size wr).alloc hzr _).grown hgrow1 (by simp; omega) (fun g hg => (World.ownsRow.lt HOW.out g hg).1)
      have HX1 := hid (HBX.out.below hb1 (by omega))
      obtain ⟨u0, u1, u2, uf, uz⟩ := HX1.out
      have hfin := hid (own_other (g := g9) (o := 2) (u := .slice A1 (k + 1) c1) hown1 (by omega))
      have hbx := hid (picbox_two (A' := A1) (n' := k + 1) (c' := c1) HX1.out)
      have hbl := hid (Below.setCell (HBL.out.trans (hb1.mono (by omega))) (show g9 ≤ (⟨g9, 2, none⟩ : Addr).block from Nat.le_refl _) (.slice A1 (k + 1) c1))
      have hz1' : W0.heap.size ≤ w1.heap.size := Nat.le_trans hzr hb1.size
      clear hown1 hgrow1 hb1 x0 x1 x2 xf y0 y1
      go_wp2_with fail
      go_roundw
      case rel => exact ⟨k + 1, A1, c1, by omega, by go_num, hbx, hfin, hbl, by simp; omega⟩
      case measure => simp [intOf]; omega
    · obtain rfl : k = N := by omega
      have HP := hid (show Pixs wr A' k (seenK (dat rs) X Y back 0).p from by
        rw [Hrep.out]
        exact ⟨by simp, Row.of_own HOW.out⟩)
      have HNE := hid (show ∀ a, A' = some a → g9 ≠ a.block ∧ w.heap.size + 2 ≤ a.block from fun a ha => by
        obtain ⟨A2, c2, e, hA2, -, -⟩ := own_slice HOW.out
        injection e with e1 e2 e3
        have := (hA2 a (e1 ▸ ha)).1
        exact ⟨by omega, by omega⟩)
      have HBT := hid (BT.out.below HBL.out (by omega))
      have hBel : Below w.heap.size w wr := hB0.trans (HBL.out.mono (by omega))
      clear HOW x0 x1 x2 xf y0 y1 HBL BT BK hB0 hlt hk hzr Hrep hmul
      obtain ⟨N, rfl⟩ : ∃ M, M = k := ⟨_, rfl⟩
      go_wp2_with fail
      clear hxy
      go_loopw [11] (fun i wr => ∃ (k : Nat) (A' : Option Addr) (c' : Nat), k ≤ n ∧ i = .int .i64 k ∧ Hid (PicBox wr g9 X Y A' N c') ∧ Hid (Pixs wr A' N (seenK (dat rs) X Y back k).p) ∧ Hid (∀ a, A' = some a → g9 ≠ a.block ∧ w.heap.size + 2 ≤ a.block) ∧ Hid (PicBox wr (w.heap.size + 1) 0 0 none 0 0) ∧ Below w.heap.size w wr) (fun i _ => n - (intOf i).toNat)
      case atStart => exact ⟨0, A', c', by omega, rfl, HBX, HP, HNE, HBT, hBel⟩
      case round =>
        clear HBX HP HNE HBT hBel
        obtain ⟨k, A', c', hk, rfl, HBX, HPX, HNE, HBT, hbel⟩ := hrel
        obtain ⟨c0, c1, c2, cf, cz⟩ := HBX.out
        by_cases hlt : k < n
        · have k1 : k < rs.length := by rw [Hl.out]; exact hlt
          obtain ⟨b, off, rfl, hbs, hc⟩ := HO.out.open_ (by omega)
          have hcs := hc.cells hbel hbs k1
          have q1 : (0 : Int) ≤ (k : Int) := by omega
          have q2 : (k : Int) < (n : Int) := by omega
          have hsu := seenK_succ (l := dat rs) (X := X) (Y := Y) (back := back) (k := k) (by rw [dat_len]; exact k1)
          rw [dat_at k1, (Hsh.out k).1] at hsu
          have hfk := Hfin.out k
          rw [(Hsh.out k).1] at hfk
          have hpo := (HO.out.2.2 rs[k] (List.getElem_mem k1)).below hbel
          have hfo := HF.out rs[k] (List.getElem_mem k1)
          have hcall := fun W (hb : Below wr.heap.size wr W) => laid_any ⟨⟨X, Y, (seenK (dat rs) X Y back k).p⟩, A', N, c'⟩ rs[k] W (HPX.out.below hb) (hpo.below hb) hfk hfo
          rw [← hsu, (Hsh.out (k + 1)).1] at hcall
          have Hcall := hid (fun W hb => (hcall W hb).mono fun e w' h => ret_n (Hsh.out (k + 1)).2 h)
          clear hcall hsu hfk hpo hfo hc
          generalize rs[k] = q at *
          clear k1
          have hbsr : b < wr.heap.size := Nat.lt_of_lt_of_le hbs hbel.size
          obtain ⟨d0, d1, d2, d3, d4, d5, d6, d7, d8, d9, d10⟩ := hcs
          have HBW : Below wr.heap.size wr wr := Below.refl _ _
          have f0 := cf 0
          have f1 := cf 1
          have f2 := cf 2
          clear cf
          go_wp2_with fail
          go_region_with
            ((go_at_call 52; (with_reducible refine (Hcall.out _ (by first | exact HBW | (have hB := HBW; (repeat (first | with_reducible exact hB | with_reducible refine Below.alloc ?_ (by have := hB.size; simp; try omega) _ | with_reducible refine Below.setCell ?_ (by have := hB.size; simp; try omega) _ | with_reducible refine below_drewN ?_ _ | with_reducible refine Below.drew ?_))))).mono ?_); rintro e w3 ⟨A3, c3, rfl, hp3, hn3, hb3⟩; have HB3 : Below wr.heap.size wr w3 := bnext (by have hB := HBW; (repeat (first | with_reducible exact hB | with_reducible refine Below.alloc ?_ (by have := hB.size; simp; try omega) _ | with_reducible refine Below.setCell ?_ (by have := hB.size; simp; try omega) _ | with_reducible refine below_drewN ?_ _ | with_reducible refine Below.drew ?_))) hb3; have x0 := (HB3.cell (p := ⟨g9, 0, none⟩) cz).trans c0; have x1 := (HB3.cell (p := ⟨g9, 1, none⟩) cz).trans c1; have x2 := (HB3.cell (p := ⟨g9, 2, none⟩) cz).trans c2; have y0 := (HB3.frozen (p := ⟨g9, 0, none⟩) cz).trans f0; have y1 := (HB3.frozen (p := ⟨g9, 1, none⟩) cz).trans f1; have y2 := (HB3.frozen (p := ⟨g9, 2, none⟩) cz).trans f2; have z3 := hb3.size; (try simp at z3); have HBW := HB3))
          all_goals
            have HX3 := hid (HBX.out.below HBW cz)
            have HT3 := hid (putBox_below X Y A3 N c3 (bnext hbel HBW) (show w.heap.size ≤ g9 by omega))
            have hpp := hid (putBox_pixs (g := g9) (pw := X) (ph := Y) (n := N) (c := c3) (A := A3) hp3 (fun a ha => by have := hn3 a ha; (try simp at this); omega))
            have hne3 := hid (show ∀ a, A3 = some a → g9 ≠ a.block ∧ w.heap.size + 2 ≤ a.block from fun a ha => by
              have h1 := hn3 a ha
              have h2 := hbel.size
              (try simp at h1)
              exact ⟨by omega, by omega⟩)
            have hpb := hid (putBox_is (pw' := X) (ph' := Y) (A' := A3) (n' := N) (c' := c3) HX3.out)
            have hpt := hid (putBox_keep (g' := w.heap.size + 1) X Y A3 N c3 (HBT.out.below HBW HBT.out.2.2.2.2) (show g9 ≠ w.heap.size + 1 by omega))
            unfold putBox at HT3 hpp hpb hpt
            clear hp3 hn3 hb3 x0 x1 x2 y0 y1 y2 HBX HPX HNE HBT Hcall d0 d1 d2 d3 d4 d5 d6 d7 d8 d9 d10
            go_wp2_with fail
            go_roundw
            case rel => exact ⟨k + 1, A3, c3, by omega, by go_num, hpb, hpp, hne3, hpt, HT3.out⟩
            case measure => simp [intOf]; omega
        · obtain rfl : k = n := by omega
          have hall := hid (show seenK (dat rs) X Y back k = seenP (dat rs) X Y back from seenK_all (by rw [dat_len, Hl.out]; omega))
          obtain ⟨t0, t1, t2, tf, tz⟩ := HBT.out
          have hsh := hid (Hsh.out k)
          have gne : g9 ≠ w.heap.size + 1 := by omega
          go_wp2_with fail
          refine bodyPost_ret (v := .agg #[.int .i64 X, .int .i64 Y, .slice A' N c']) (by simp [results, Try.results39, go_sem, t0, t1, t2]) rfl ?_
          have hl2 := hsh.out.2
          rw [← hall.out, hsh.out.1]
          refine ⟨A', c', by simp only; rw [hl2], ?_, fun a ha => by have := (HNE.out a ha).2; omega, ?_⟩
          · simp only
            rw [hl2]
            exact putBox_pixs (pw := X) (ph := Y) (n := N) (c := c') (A := A') HPX.out (fun a ha => by have := (HNE.out a ha).2; omega)
          · exact putBox_below X Y A' N c' hbel (show w.heap.size ≤ w.heap.size + 1 by omega)
end Fb
