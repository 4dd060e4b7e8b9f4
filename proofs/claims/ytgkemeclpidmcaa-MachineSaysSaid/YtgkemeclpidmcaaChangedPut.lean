/- The reference's Changed, where it puts. Conditions: pictures that may be, places not too far. -/
import Derived.Test.YtgkemeclpidmcaaChanged
set_option linter.unusedSimpArgs false
set_option linter.unusedVariables false
namespace Fb
open Go Go.Proofs Go.RowKit Go.Sort
set_option maxRecDepth 100000 in
set_option maxHeartbeats 4000000 in
theorem changedPut_any (r s : FAt FPic) (x y : Int) (w : World) (hr : Pixs w r.A r.n r.x.p) (hs : Pixs w s.A s.n s.x.p) (fr : PicFine r.x) (fs : PicFine s.x) (bx : -100 ≤ x ∧ x ≤ 100) (b_y : -100 ≤ y ∧ y ≤ 100) :
    Calls Try.prog 55 #[.agg #[.int .i64 r.x.w, .int .i64 r.x.h, .slice r.A r.n r.c], .agg #[.int .i64 s.x.w, .int .i64 s.x.h, .slice s.A s.n s.c], .int .i64 x, .int .i64 y, .bool false] w (RetPic (changeP putP r.x s.x x y) w) := by
  obtain ⟨⟨pw, ph, l⟩, A, n, c⟩ := r
  obtain ⟨⟨qw, qh, q⟩, B, m, d⟩ := s
  obtain ⟨f1, f2, f3, f4, -, -⟩ := id fr
  obtain ⟨k1, k2, k3, k4, -, -⟩ := id fs
  simp only at f1 f2 f3 f4 k1 k2 k3 k4
  obtain ⟨P, rfl⟩ : ∃ P : Nat, pw = (P : Int) := ⟨pw.toNat, by omega⟩
  obtain ⟨H, rfl⟩ : ∃ H : Nat, ph = (H : Int) := ⟨ph.toNat, by omega⟩
  obtain ⟨Q, rfl⟩ : ∃ Q : Nat, qw = (Q : Int) := ⟨qw.toNat, by omega⟩
  obtain ⟨K, rfl⟩ : ∃ K : Nat, qh = (K : Int) := ⟨qh.toNat, by omega⟩
  clear f1 f2 f3 f4 k1 k2 k3 k4
  have Hfr := hid fr
  have Hfs := hid fs
  have hln := pic_len fr
  have hlm := pic_len fs
  obtain ⟨r1, r2, r3, r4, r5, -⟩ := fr
  obtain ⟨s1, s2, s3, s4, s5, -⟩ := fs
  simp only at hr hs hln hlm r1 r2 r3 r4 r5 s1 s2 s3 s4 s5
  rw [hr.1] at hln
  rw [hs.1] at hlm
  have Hl := hid hr.1
  have Hq := hid hs.1
  have hrow := hr.2.2 (by omega)
  obtain ⟨qb, qo, rfl, hqb, hqc⟩ := hs.open_ (by omega)
  obtain ⟨ab, ao, rfl, hab, hac⟩ := hr.open_ (by omega)
  have hnews : ∀ j u, (pxCells l)[j]? = some u → w.cell? ((⟨ab, ao, none⟩ : Addr).add j) = some u := by
    intro j u hu
    obtain ⟨b, off, e, hb, hc⟩ := hrow
    injection e with e
    injection e with e1 e2
    subst e1 e2
    have h2 := hc j u hu
    by_cases h0 : j = 0
    · subst h0; simpa [Addr.add] using h2
    · simpa [Addr.add, h0] using h2
  have Hblk := hid (show n * 2 = (pxCells l).length by rw [pxCells_len, Hl.out])
  have Hqc := hid hqc
  have Hac := hid hac
  have R5 := hid r5
  have S5 := hid s5
  obtain ⟨i0, hi, hz0, hz1, hz2⟩ := info_parts info_px
  clear hs hqc hac r5 s5 hr hrow
  simp only
  have Hnews0 := hid hnews
  clear hnews
  go_enter Try.func55, Try.ntmps55
  go_upto_region 1 with fail
  obtain ⟨W0, hW0⟩ : ∃ W0, W0 = ((w.alloc (.cells #[.int .i64 (P : Int), .int .i64 (H : Int), .slice (some ⟨ab, ao, none⟩) n c] 49)).alloc (.cells #[.int .i64 (Q : Int), .int .i64 (K : Int), .slice (some ⟨qb, qo, none⟩) m d] 49)).alloc (.cells #[.int .i64 0, .int .i64 0, .slice none 0 0] 49) := ⟨_, rfl⟩
  have hB0 : Below w.heap.size w W0 := by
    rw [hW0]; exact (((Below.refl w.heap.size w).alloc (Nat.le_refl _) _).alloc (by simp) _).alloc (by simp; omega) _
  have c0 : W0.cell? ⟨w.heap.size, 0, none⟩ = some (.int .i64 (P : Int)) := by rw [hW0]; go_simp
  have c1 : W0.cell? ⟨w.heap.size, 1, none⟩ = some (.int .i64 (H : Int)) := by rw [hW0]; go_simp
  have c2 : W0.cell? ⟨w.heap.size, 2, none⟩ = some (.slice (some ⟨ab, ao, none⟩) n c) := by rw [hW0]; go_simp
  have d0 : W0.cell? ⟨w.heap.size + 1, 0, none⟩ = some (.int .i64 (Q : Int)) := by rw [hW0]; go_simp
  have d1 : W0.cell? ⟨w.heap.size + 1, 1, none⟩ = some (.int .i64 (K : Int)) := by rw [hW0]; go_simp
  have d2 : W0.cell? ⟨w.heap.size + 1, 2, none⟩ = some (.slice (some ⟨qb, qo, none⟩) m d) := by rw [hW0]; go_simp
  have e0 : W0.cell? ⟨w.heap.size + 1 + 1, 0, none⟩ = some (.int .i64 0) := by rw [hW0]; go_simp
  have e1 : W0.cell? ⟨w.heap.size + 1 + 1, 1, none⟩ = some (.int .i64 0) := by rw [hW0]; go_simp
  have e2 : W0.cell? ⟨w.heap.size + 1 + 1, 2, none⟩ = some (.slice none 0 0) := by rw [hW0]; go_simp
  have FZ := hid (show ∀ o, W0.frozen? ⟨w.heap.size + 1 + 1, o, none⟩ = false by intro o; rw [hW0]; go_simp)
  have z0 : W0.heap.size = w.heap.size + 3 := by rw [hW0]; simp
  have hnews1 : ∀ W', Below W0.heap.size W0 W' → ∀ j u, (pxCells l)[j]? = some u → W'.cell? ((⟨ab, ao, none⟩ : Addr).add j) = some u := by
    intro W' hW j u hu
    have hb2 : ((⟨ab, ao, none⟩ : Addr).add j).block = ab := by
      unfold Addr.add
      split <;> rfl
    exact (hW.cell (p := (⟨ab, ao, none⟩ : Addr).add j) (by rw [hb2]; omega)).trans ((hB0.cell (p := (⟨ab, ao, none⟩ : Addr).add j) (by rw [hb2]; exact hab)).trans (Hnews0.out j u hu))
  have Hnews := hid hnews1
  rw [← hW0]
  clear hW0 hnews1
  go_cut [11] (fun t wi => NewPic W0 (P : Int) (H : Int) n l t wi)
  case first =>
    have ne0 : ¬ w.heap.size = W0.heap.size := by omega
    have ne1 : ¬ W0.heap.size = w.heap.size := by omega
    have HBW := Below.refl W0.heap.size W0
    go_region_held3 (fun w' => w'.cell? ⟨w.heap.size, 0, none⟩ = some (.int .i64 (P : Int)) ∧ w'.cell? ⟨w.heap.size, 1, none⟩ = some (.int .i64 (H : Int)) ∧ w'.cell? ⟨w.heap.size, 2, none⟩ = some (.slice (some ⟨ab, ao, none⟩) n c)) (first | exact ⟨n0, n1, n2⟩ | go_keep)
      (first | (refine step_append_lies _ rfl _ _ 47 rfl W0.heap.size 42 i0 (.agg #[.int .i64 0, .int .i64 0]) 2 16 rfl hi hz0 hz1 hz2 rfl (by decide) (.slice none 0 0) 0 [] rfl (World.ownsRow_nil _ _ _ _) ⟨ab, ao, none⟩ n c (pxCells l) rfl Hblk.out.symm (fun j u hu => Hnews.out _ (by have hB := HBW; ((repeat (first | with_reducible exact hB | with_reducible refine Below.alloc ?_ (by have := hB.size; simp; try omega) _ | with_reducible refine Below.setCell ?_ (by have := hB.size; simp; try omega) _ | with_reducible refine below_drewN ?_ _ | with_reducible refine Below.drew ?_)))) j u hu) (fun u hu => pxCells_cell hu) (by omega) (by unfold maxLen; omega) (by omega) (by first | exact Nat.le_refl _ | (simp; done) | (simp; omega)) _ rfl ?_; intro g cap w' hown hg hgg hlt; have hgg2 := (hgg.resolve_left (by intro e; cases e)); have hbw := below_gb hg; have hbz := hbw.size; (try simp at hbz); (try simp at hgg2); have HBW : Below W0.heap.size W0 w' := bnext (by have hB := HBW; ((repeat (first | with_reducible exact hB | with_reducible refine Below.alloc ?_ (by have := hB.size; simp; try omega) _ | with_reducible refine Below.setCell ?_ (by have := hB.size; simp; try omega) _ | with_reducible refine below_drewN ?_ _ | with_reducible refine Below.drew ?_)))) hbw; obtain ⟨hbc, hbf⟩ := bcell hbw; have ne0 : ¬ w.heap.size = w'.heap.size := (by have := HBW.size; omega); have ne1 : ¬ w'.heap.size = w.heap.size := (by have := HBW.size; omega); have n0 := held_cell (b := w.heap.size) (o := 0) (v := .int .i64 (P : Int)) HBW (by omega) c0; have n1 := held_cell (b := w.heap.size) (o := 1) (v := .int .i64 (H : Int)) HBW (by omega) c1; have n2 := held_cell (b := w.heap.size) (o := 2) (v := .slice (some ⟨ab, ao, none⟩) n c) HBW (by omega) c2; skip))
    all_goals (go_wp2_with fail)
    all_goals go_meet
    all_goals (simp only [Nat.zero_add, List.nil_append] at hown)
    all_goals (have hws := HBW.size)
    all_goals (refine ⟨_, g, cap, rfl, by first | omega | (simp; omega), by first | omega | (simp; done) | (simp; omega), by omega, by first | omega | (simp; done) | (simp; omega), by omega, ?_, ?_, ?_, ?_, ?_⟩)
    all_goals (try (first | (go_simp; done) | (simp [hbc]; done) | (simp [hbc, hgg2]; done) | (rw [hgg2]; go_simp; done)))
    all_goals (try (first | exact own_keep hown ((Below.refl _ _).alloc (Nat.le_refl _) _) | exact own_off (own_off (own_off hown (by omega)) (by omega)) (by omega)))
    all_goals (try (have hB := HBW; (repeat (first | with_reducible exact hB | with_reducible refine Below.alloc ?_ (by have := hB.size; simp; try omega) _ | with_reducible refine Below.setCell ?_ (by have := hB.size; simp; try omega) _ | with_reducible refine below_drewN ?_ _ | with_reducible refine Below.drew ?_)); done))
  case rest =>
    obtain ⟨gr, gp, cap, rfl, hgr, hgr2, hgp, hgp2, hne, p0, p1, p2, hown, hbw⟩ := hcut
    obtain ⟨cc, hcc⟩ : ∃ cc, onB ⟨x, y, (Q : Int), (K : Int)⟩ = cc := ⟨_, rfl⟩
    have Hcc := hid hcc
    clear hcc
    obtain ⟨vv, hvv⟩ : ∃ vv : Nat → Nat → Px, (fun j i => putP (l.getD (j * P + i) (0, 0)) (srcP ⟨(Q : Int), (K : Int), q⟩ x y j i)) = vv := ⟨_, rfl⟩
    have Hvv := hid hvv
    clear hvv
    have hnPH : n = P * H := by
      have h1 := R5.out
      have h2 := Hl.out
      have h3 : ((l.length : Nat) : Int) = ((P * H : Nat) : Int) := by rw [h1]; simp
      omega
    have HnPH := hid hnPH
    have Hlen := hid (Hl.out.trans hnPH)
    clear hnPH
    have hP : 0 < P := by omega
    have HHAS := hid (fun (i j : Nat) W => rhas_any ⟨x, y, (Q : Int), (K : Int)⟩ (i : Int) (j : Int) (by simp; omega) (by simp; omega) (by simp; omega) (by simp; omega) W)
    have hzc := hbw.size
    have b0 := held_cell hbw (by omega) c0
    have b1 := held_cell hbw (by omega) c1
    have b2 := held_cell hbw (by omega) c2
    have q0 := held_cell hbw (by omega) d0
    have q1 := held_cell hbw (by omega) d1
    have q2 := held_cell hbw (by omega) d2
    have u0 := held_cell hbw (by omega) e0
    have u1 := held_cell hbw (by omega) e1
    have u2 := held_cell hbw (by omega) e2
    have FZ3 := hid (fun o => (hbw.frozen (p := ⟨w.heap.size + 1 + 1, o, none⟩) (by show w.heap.size + 1 + 1 < W0.heap.size; omega)).trans (FZ.out o))
    have hB3 := bnext hB0 hbw
    have Hqx := hid (fun k hk => (And.intro ((hB3.cell (p := ⟨qb, qo + k * 2, none⟩) hqb).trans (Hqc.out k hk).1) ((hB3.cell (p := ⟨qb, qo + k * 2 + 1, none⟩) hqb).trans (Hqc.out k hk).2)))
    have Hax := hid (fun k hk => (And.intro ((hB3.cell (p := ⟨ab, ao + k * 2, none⟩) hab).trans (Hac.out k hk).1) ((hB3.cell (p := ⟨ab, ao + k * 2 + 1, none⟩) hab).trans (Hac.out k hk).2)))
    rw [z0] at hown hgr hgp
    clear c0 c1 c2 d0 d1 d2 e0 e1 e2 hbw hB0 Hnews Hnews0 Hblk hi hz0 hz1 hz2 i0
    go_wp2_with fail
    go_loopw [12] (fun jv wr => ∃ j : Nat, jv = .int .i64 j ∧ j ≤ H ∧ wr.ownsRow (w.heap.size + 3) 42 2 (.slice (some ⟨gp, 0, none⟩) n cap) n (pxCells (upd P l cc vv j 0)) ∧ wc.grownBy wr (some gp)) (fun jv _ => H - (intOf jv).toNat)
    case atStart => exact ⟨0, rfl, by omega, by rw [upd_zero]; exact hown, gb_refl _ _⟩
    case round =>
      clear hown
      obtain ⟨j, rfl, hj2, hown, hgb⟩ := hrel
      have y1 := gb_cell hgb (b := w.heap.size) (by omega) (by omega) b1
      by_cases hj : (j : Int) < (H : Int)
      · go_wp2_with fail
        obtain ⟨wo, rfl⟩ : ∃ wo : World, wo = wr := ⟨_, rfl⟩
        go_loopw [13] (fun iv wr => ∃ i : Nat, iv = .int .i64 i ∧ i ≤ P ∧ wr.ownsRow (w.heap.size + 3) 42 2 (.slice (some ⟨gp, 0, none⟩) n cap) n (pxCells (upd P l cc vv j i)) ∧ wc.grownBy wr (some gp)) (fun iv _ => P - (intOf iv).toNat)
        case atStart => exact ⟨0, rfl, by omega, hown, hgb⟩
        case round =>
          clear hown hgb y1
          obtain ⟨i, rfl, hi2, hown, hgb⟩ := hrel
          have y0 := gb_cell hgb (b := w.heap.size) (by omega) (by omega) b0
          by_cases hi : (i : Int) < (P : Int)
          · have hjH : j < H := by omega
            have hiP : i < P := by omega
            have y2 := gb_cell hgb (b := w.heap.size + 1) (by omega) (by omega) q0
            have y3 := gb_cell hgb (b := w.heap.size + 1) (by omega) (by omega) q1
            have Hown := hid hown
            clear hown
            go_wp2_with fail
            refine (HHAS.out i j _).mono ?_
            rintro e w2 ⟨rfl, hb2⟩
            have hcceq : hasB ⟨x, y, (Q : Int), (K : Int)⟩ (i : Int) (j : Int) = cc j i := by rw [← Hcc.out]; rfl
            rw [hcceq]
            have hown2 := own_keep Hown.out hb2
            have hgb2 := gb_below hgb hb2
            clear hb2 y0 y2 y3 hgb Hown
            by_cases hcj : cc j i = true
            · rw [hcj]
              have hKn := at_lt hjH hiP
              have hsrc := src_lt (q := ⟨(Q : Int), (K : Int), q⟩) (x := x) (y := y) (j := j) (i := i) Hfs.out (by rw [Hcc.out]; exact hcj)
              have hon := has_iff.1 (show hasB ⟨x, y, (Q : Int), (K : Int)⟩ (i : Int) (j : Int) = true from by have := hcj; rw [← Hcc.out] at this; exact this)
              simp only at hsrc hon
              have hread := upd_at (c := cc) (v := vv) Hlen.out hjH hiP
              have hstep := upd_step (c := cc) (v := vv) Hlen.out hjH hiP hcj
              have hvv : vv j i = putP (l.getD (j * P + i) (0, 0)) (srcP ⟨(Q : Int), (K : Int), q⟩ x y j i) := by rw [← Hvv.out]
              unfold srcP at hvv
              simp only at hvv
              obtain ⟨KK, hKK⟩ : ∃ KK, j * P + i = KK := ⟨_, rfl⟩
              obtain ⟨JP, hJP⟩ : ∃ JP, j * P = JP := ⟨_, rfl⟩
              obtain ⟨SS, hSS⟩ : ∃ SS : Nat, ((j : Int) - y) * (Q : Int) + (i : Int) - x = (SS : Int) := ⟨(((j : Int) - y) * (Q : Int) + (i : Int) - x).toNat, by omega⟩
              obtain ⟨M1, hM1⟩ : ∃ M1 : Int, (j : Int) - y = M1 := ⟨_, rfl⟩
              obtain ⟨M2, hM2⟩ : ∃ M2 : Int, M1 * (Q : Int) = M2 := ⟨_, rfl⟩
              have hJPi : (j : Int) * (P : Int) = (JP : Int) := by rw [← hJP]; simp
              have hM1b : 0 ≤ M1 ∧ M1 ≤ 8 := by omega
              have hM2b : 0 ≤ M2 ∧ M2 ≤ 64 := by
                have t1 : 0 ≤ M1 * (Q : Int) := Int.mul_nonneg hM1b.1 (by omega)
                have t2 : M1 * (Q : Int) ≤ 8 * 8 := Int.mul_le_mul hM1b.2 (by omega) (by omega) (by omega)
                omega
              rw [hSS] at hsrc hvv
              rw [hM1, hM2] at hSS
              rw [hKK] at hKn hread hstep hvv
              rw [Int.toNat_natCast] at hvv
              have hKl : KK < l.length := by rw [Hlen.out]; exact hKn
              have hSl : SS < q.length := by omega
              rw [List.getD_eq_getElem?_getD, List.getElem?_eq_getElem hKl, List.getD_eq_getElem?_getD, List.getElem?_eq_getElem hSl, Option.getD_some, Option.getD_some] at hvv
              rw [List.getElem?_eq_getElem hKl] at hread
              obtain ⟨s0, s1⟩ := Hqx.out SS hSl
              obtain ⟨t0, t1⟩ := Hax.out KK hKl
              obtain ⟨fa0, fa1, fa2, fa3⟩ := Hfr.out.2.2.2.2.2 l[KK] (List.getElem_mem hKl)
              obtain ⟨fb0, fb1, fb2, fb3⟩ := Hfs.out.2.2.2.2.2 q[SS] (List.getElem_mem hSl)
              generalize l[KK] = pa at *
              generalize q[SS] = pb at *
              obtain ⟨pav, paa⟩ := pa
              obtain ⟨pbv, pba⟩ := pb
              simp only at s0 s1 t0 t1 fa0 fa1 fa2 fa3 fb0 fb1 fb2 fb3
              have Hvj := hid hvv
              have Hread := hid hread
              clear hread
              have Hstep := hid hstep
              have hKKn : KK < n := by rw [HnPH.out]; exact hKn
              have hSm : SS < m := by rw [← Hq.out]; exact hSl
              have w1 : IntKind.i64.wrap ((j : Int) * (P : Int)) = (JP : Int) := by rw [hJPi]; exact IntWalk.i64_in _ (by omega)
              have w2' : IntKind.i64.wrap ((JP : Int) + (i : Int)) = (KK : Int) := by rw [show (JP : Int) + (i : Int) = (KK : Int) by omega]; exact IntWalk.i64_in _ (by omega)
              have w3 : IntKind.i64.wrap ((j : Int) - y) = M1 := by rw [hM1]; exact IntWalk.i64_in _ (by omega)
              have w4 : IntKind.i64.wrap (M1 * (Q : Int)) = M2 := by rw [hM2]; exact IntWalk.i64_in _ (by omega)
              have w5 : IntKind.i64.wrap (M2 + (i : Int)) = M2 + (i : Int) := IntWalk.i64_in _ (by omega)
              have w6 : IntKind.i64.wrap (M2 + (i : Int) - x) = (SS : Int) := by rw [hSS]; exact IntWalk.i64_in _ (by omega)
              have x1 : (0 : Int) ≤ (KK : Int) := by omega
              have x2 : (KK : Int) < (n : Int) := by omega
              have x3 : (0 : Int) ≤ (SS : Int) := by omega
              have x4 : (SS : Int) < (m : Int) := by omega
              have z1 := gb_cell hgb2 (b := w.heap.size) (by omega) (by omega) b0
              have z2 := gb_cell hgb2 (b := w.heap.size) (by omega) (by omega) b2
              have z3 := gb_cell hgb2 (b := w.heap.size + 1) (by omega) (by omega) q0
              have z4 := gb_cell hgb2 (b := w.heap.size + 1) (by omega) (by omega) q2
              have z5 := gb_cell hgb2 (b := qb) (by omega) (by omega) s0
              have z6 := gb_cell hgb2 (b := qb) (by omega) (by omega) s1
              have z7 := gb_cell hgb2 (b := ab) (by omega) (by omega) t0
              have z8 := gb_cell hgb2 (b := ab) (by omega) (by omega) t1
              have z9 := gb_cell hgb2 (b := gr) (by omega) (by omega) p2
              have hws := hgb2.size
              have hgw : gp < w2.heap.size := by omega
              clear hvv hstep hsrc hon hcj hKn hKK hJP hM1 hM2 hJPi hSS hKl hSl s0 s1 t0 t1 b0 b1 b2 q0 q1 q2 u0 u1 u2 hM1b hM2b p0 p1 p2
              go_upto_region 14 with fail
              obtain ⟨W3, hW3⟩ : ∃ W3, W3 = w2.alloc (.cells #[.int .i64 pbv, .int .i64 pba] 42) := ⟨_, rfl⟩
              have hb3 : Below w2.heap.size w2 W3 := by rw [hW3]; exact (Below.refl _ _).alloc (Nat.le_refl _) _
              have v0 : W3.cell? ⟨w2.heap.size, 0, none⟩ = some (.int .i64 pbv) := by rw [hW3]; go_simp
              have v1 : W3.cell? ⟨w2.heap.size, 1, none⟩ = some (.int .i64 pba) := by rw [hW3]; go_simp
              have zz3 : W3.heap.size = w2.heap.size + 1 := by rw [hW3]; simp
              rw [← hW3]
              have y1 := held_cell hb3 (by omega) z1
              have y9 := held_cell hb3 (by omega) z9
              have hown3 := own_keep hown2 hb3
              have hgb3 := gb_below hgb2 hb3
              clear hW3 z1 z2 z3 z4 z5 z6 z7 z8 z9 hown2 hgb2 hb3 w3 w4 w5 w6 x3 x4
              obtain ⟨g0, g1⟩ := own_px hown3 Hread.out
              have ff0 := hown3.frozenAt (KK * 2)
              have ff1 := hown3.frozenAt (KK * 2 + 1)
              have hset := own_set hown3 KK (putP (pav, paa) (pbv, pba))
              rw [← Hvj.out, Hstep.out, Hvj.out] at hset
              have Hset := hid hset
              clear hset hown3
              go_wp2_with fail
              go_roundw
              case rel => exact ⟨i + 1, by go_num, by omega, Hset.out, gb_set (gb_set hgb3 _ _) _ _⟩
              case measure => simp [intOf]; omega
            · have hcf : cc j i = false := by simpa using hcj
              rw [hcf]
              have hsk := hid (upd_skip (w := P) (l := l) (v := vv) hcf)
              clear hcj hcf hcceq
              go_wp2_with fail
              go_roundw
              case rel => exact ⟨i + 1, by go_num, by omega, by rw [← hsk.out]; exact hown2, hgb2⟩
              case measure => simp [intOf]; omega
          · have Hown := hid (upd_next (c := cc) (v := vv) hP Hlen.out (j := j) (i := i) (by omega))
            rw [Hown.out] at hown
            go_wp2_with fail
            go_roundw
            case rel => exact ⟨j + 1, by go_num, by omega, hown, hgb⟩
            case measure => simp [intOf]; omega
      · have Hfin := hid (upd_all (c := cc) (v := vv) hP Hlen.out (j := j) (by omega))
        rw [Hfin.out] at hown
        have m0 := gb_cell hgb (b := gr) (by omega) (by omega) p0
        have m1 := gb_cell hgb (b := gr) (by omega) (by omega) p1
        have m2 := gb_cell hgb (b := gr) (by omega) (by omega) p2
        have m3 := gb_cell hgb (b := w.heap.size + 1 + 1) (by omega) (by omega) u0
        have m4 := gb_cell hgb (b := w.heap.size + 1 + 1) (by omega) (by omega) u1
        have m5 := gb_cell hgb (b := w.heap.size + 1 + 1) (by omega) (by omega) u2
        have m6 := gb_frozen hgb (b := w.heap.size + 1 + 1) (o := 0) (by omega) (by omega) (FZ3.out 0)
        have m7 := gb_frozen hgb (b := w.heap.size + 1 + 1) (o := 1) (by omega) (by omega) (FZ3.out 1)
        have m8 := gb_frozen hgb (b := w.heap.size + 1 + 1) (o := 2) (by omega) (by omega) (FZ3.out 2)
        clear b0 b1 b2 q0 q1 q2 u0 u1 u2 p0 p1 p2
        have Hchg := hid (change_eq (g := putP) (l := l) (q := q) (x := x) (y := y) (P := P) (H := H) (Q := Q) (K := K) Hcc.out Hvv.out)
        have hlen := (show (updL P l cc vv).length = n by rw [updL_len]; exact Hl.out)
        have HH := hid hown
        clear hown
        go_wp2_with fail
        refine bodyPost_ret (v := .agg #[.int .i64 (P : Int), .int .i64 (H : Int), .slice (some ⟨gp, 0, none⟩) n cap]) (by simp [results, Try.results55, go_sem, m3, m4, m5]) rfl ?_
        refine ⟨some ⟨gp, 0, none⟩, cap, ?_, ?_, fun a e => by injection e with e; subst e; show w.heap.size ≤ gp; omega, ?_⟩
        · rw [Hchg.out]; simp only; rw [hlen]
        · rw [Hchg.out]; simp only; rw [hlen]
          exact pixs_own (ownsRow_setCell_below (ownsRow_setCell_below (ownsRow_setCell_below HH.out (by show w.heap.size + 1 + 1 < _; omega) _) (by show w.heap.size + 1 + 1 < _; omega) _) (by show w.heap.size + 1 + 1 < _; omega) _) hlen
        · refine Below.setCell (Below.setCell (Below.setCell ?_ ?_ _) ?_ _) ?_ _
          · exact below_grown hB3 hgb (by have := hB3.size; omega) (by omega)
          all_goals (show w.heap.size ≤ w.heap.size + 1 + 1; omega)
end Fb
