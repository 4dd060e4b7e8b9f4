/- The reference's Laid returns what the plain law says. Conditions: a picture and an object that may be. -/
import Derived.Test.YtgkemeclpidmcaaChanged
import Derived.Test.YtgkemeclpidmcaaPlainB
import Derived.Test.YtgkemeclpidmcaaWalksA
set_option linter.unusedSimpArgs false
set_option linter.unusedVariables false
namespace Fb
open Go Go.Proofs Go.RowKit Go.Sort
theorem lay_eq {l q : List Px} {P H Q K : Nat} {x y id' cx cy cw ch : Int} {sh : Bool} {cc : Nat → Nat → Bool} {vv : Nat → Nat → Px} (hc : (fun j i => sh && (onB ⟨cx, cy, cw, ch⟩ j i && onB ⟨x, y, (Q : Int), (K : Int)⟩ j i)) = cc)
    (hv : (fun j i => overP (srcP ⟨(Q : Int), (K : Int), q⟩ x y j i) (l.getD (j * P + i) (0, 0))) = vv) : layP ⟨(P : Int), (H : Int), l⟩ ⟨id', x, y, ⟨(Q : Int), (K : Int), q⟩, ⟨cx, cy, cw, ch⟩, sh⟩ = ⟨(P : Int), (H : Int), updL P l cc vv⟩ := by
  subst hc hv
  unfold layP
  simp
set_option maxRecDepth 100000 in
set_option maxHeartbeats 4000000 in
theorem laid_any (r : FAt FPic) (s : FAt FObj) (w : World) (hr : Pixs w r.A r.n r.x.p) (hs : Pixs w s.A s.n s.x.pic.p) (fr : PicFine r.x) (fo : ObjFine s.x) :
    Calls Try.prog 52 #[.agg #[.int .i64 r.x.w, .int .i64 r.x.h, .slice r.A r.n r.c], .agg #[.int .i64 s.x.id, .int .i64 s.x.x, .int .i64 s.x.y, .int .i64 s.x.pic.w, .int .i64 s.x.pic.h, .slice s.A s.n s.c, .int .i64 s.x.clip.x, .int .i64 s.x.clip.y, .int .i64 s.x.clip.w, .int .i64 s.x.clip.h, .bool s.x.shown]] w (RetPic (layP r.x s.x) w) := by
  obtain ⟨⟨pw, ph, l⟩, A, n, c⟩ := r
  obtain ⟨⟨oid, x, y, ⟨qw, qh, q⟩, ⟨cx, cy, cw, ch⟩, sh⟩, B, m, d⟩ := s
  have fs := fo.2.2
  obtain ⟨-, -, ox1, ox2, oy1, oy2⟩ := fo.1
  obtain ⟨⟨cx1, cx2⟩, ⟨cy1, cy2⟩, ⟨cw1, cw2⟩, ⟨ch1, ch2⟩⟩ := rectFault_bd fo.2.1
  clear fo
  simp only at fs ox1 ox2 oy1 oy2 cx1 cx2 cy1 cy2 cw1 cw2 ch1 ch2
  obtain ⟨f1, f2, f3, f4, -, -⟩ := id fr
  obtain ⟨k1, k2, k3, k4, -, -⟩ := id fs
  simp only at f1 f2 f3 f4 k1 k2 k3 k4
  obtain ⟨P, rfl⟩ : ∃ P : Nat, pw = (P : Int) := ⟨pw.toNat, by omega⟩
  obtain ⟨H, rfl⟩ : ∃ H : Nat, ph = (H : Int) := ⟨ph.toNat, by omega⟩
  obtain ⟨Q, rfl⟩ : ∃ Q : Nat, qw = (Q : Int) := ⟨qw.toNat, by omega⟩
  obtain ⟨K, rfl⟩ : ∃ K : Nat, qh = (K : Int) := ⟨qh.toNat, by omega⟩
  clear f1 f2 f3 f4 k1 k2 k3 k4
  have Hfr := hid fr
  have Hfs := hid fs
  have hln := pic_len fr
  have hlm := pic_len fs
  obtain ⟨r1, r2, r3, r4, r5, -⟩ := fr
  obtain ⟨s1, s2, s3, s4, s5, -⟩ := fs
  simp only at hr hs hln hlm r1 r2 r3 r4 r5 s1 s2 s3 s4 s5
  rw [hr.1] at hln
  rw [hs.1] at hlm
  have Hl := hid hr.1
  have Hq := hid hs.1
  have hrow := hr.2.2 (by omega)
  obtain ⟨qb, qo, rfl, hqb, hqc⟩ := hs.open_ (by omega)
  obtain ⟨ab, ao, rfl, hab, hac⟩ := hr.open_ (by omega)
  have hnews : ∀ j u, (pxCells l)[j]? = some u → w.cell? ((⟨ab, ao, none⟩ : Addr).add j) = some u := by
    intro j u hu
    obtain ⟨b, off, e, hb, hc⟩ := hrow
    injection e with e
    injection e with e1 e2
    subst e1 e2
    have h2 := hc j u hu
    by_cases h0 : j = 0
    · subst h0; simpa [Addr.add] using h2
    · simpa [Addr.add, h0] using h2
  have Hblk := hid (show n * 2 = (pxCells l).length by rw [pxCells_len, Hl.out])
  have Hqc := hid hqc
  have Hac := hid hac
  have R5 := hid r5
  have S5 := hid s5
  obtain ⟨i0, hi, hz0, hz1, hz2⟩ := info_parts info_px
  clear hs hqc hac r5 s5 hr hrow
  simp only
  have Hnews0 := hid hnews
  clear hnews
  go_enter Try.func52, Try.ntmps52
  go_upto_region 1 with fail
  obtain ⟨W0, hW0⟩ : ∃ W0, W0 = ((w.alloc (.cells #[.int .i64 (P : Int), .int .i64 (H : Int), .slice (some ⟨ab, ao, none⟩) n c] 49)).alloc (.cells #[.int .i64 oid, .int .i64 x, .int .i64 y, .int .i64 (Q : Int), .int .i64 (K : Int), .slice (some ⟨qb, qo, none⟩) m d, .int .i64 cx, .int .i64 cy, .int .i64 cw, .int .i64 ch, .bool sh] 89)).alloc (.cells #[.int .i64 0, .int .i64 0, .slice none 0 0] 49) := ⟨_, rfl⟩
  have hB0 : Below w.heap.size w W0 := by
    rw [hW0]; exact (((Below.refl w.heap.size w).alloc (Nat.le_refl _) _).alloc (by simp) _).alloc (by simp; omega) _
  have c0 : W0.cell? ⟨w.heap.size, 0, none⟩ = some (.int .i64 (P : Int)) := by rw [hW0]; go_simp
  have c1 : W0.cell? ⟨w.heap.size, 1, none⟩ = some (.int .i64 (H : Int)) := by rw [hW0]; go_simp
  have c2 : W0.cell? ⟨w.heap.size, 2, none⟩ = some (.slice (some ⟨ab, ao, none⟩) n c) := by rw [hW0]; go_simp
  have d1 : W0.cell? ⟨w.heap.size + 1, 1, none⟩ = some (.int .i64 x) := by rw [hW0]; go_simp
  have d2 : W0.cell? ⟨w.heap.size + 1, 2, none⟩ = some (.int .i64 y) := by rw [hW0]; go_simp
  have d3 : W0.cell? ⟨w.heap.size + 1, 3, none⟩ = some (.int .i64 (Q : Int)) := by rw [hW0]; go_simp
  have d4 : W0.cell? ⟨w.heap.size + 1, 4, none⟩ = some (.int .i64 (K : Int)) := by rw [hW0]; go_simp
  have d5 : W0.cell? ⟨w.heap.size + 1, 5, none⟩ = some (.slice (some ⟨qb, qo, none⟩) m d) := by rw [hW0]; go_simp
  have d6 : W0.cell? ⟨w.heap.size + 1, 6, none⟩ = some (.int .i64 cx) := by rw [hW0]; go_simp
  have d7 : W0.cell? ⟨w.heap.size + 1, 7, none⟩ = some (.int .i64 cy) := by rw [hW0]; go_simp
  have d8 : W0.cell? ⟨w.heap.size + 1, 8, none⟩ = some (.int .i64 cw) := by rw [hW0]; go_simp
  have d9 : W0.cell? ⟨w.heap.size + 1, 9, none⟩ = some (.int .i64 ch) := by rw [hW0]; go_simp
  have d10 : W0.cell? ⟨w.heap.size + 1, 10, none⟩ = some (.bool sh) := by rw [hW0]; go_simp
  have e0 : W0.cell? ⟨w.heap.size + 1 + 1, 0, none⟩ = some (.int .i64 0) := by rw [hW0]; go_simp
  have e1 : W0.cell? ⟨w.heap.size + 1 + 1, 1, none⟩ = some (.int .i64 0) := by rw [hW0]; go_simp
  have e2 : W0.cell? ⟨w.heap.size + 1 + 1, 2, none⟩ = some (.slice none 0 0) := by rw [hW0]; go_simp
  have FZ := hid (show ∀ o, W0.frozen? ⟨w.heap.size + 1 + 1, o, none⟩ = false by intro o; rw [hW0]; go_simp)
  have z0 : W0.heap.size = w.heap.size + 3 := by rw [hW0]; simp
  have hnews1 : ∀ W', Below W0.heap.size W0 W' → ∀ j u, (pxCells l)[j]? = some u → W'.cell? ((⟨ab, ao, none⟩ : Addr).add j) = some u := by
    intro W' hW j u hu
    have hb2 : ((⟨ab, ao, none⟩ : Addr).add j).block = ab := by
      unfold Addr.add
      split <;> rfl
    exact (hW.cell (p := (⟨ab, ao, none⟩ : Addr).add j) (by rw [hb2]; omega)).trans ((hB0.cell (p := (⟨ab, ao, none⟩ : Addr).add j) (by rw [hb2]; exact hab)).trans (Hnews0.out j u hu))
  have Hnews := hid hnews1
  rw [← hW0]
  clear hW0 hnews1
  go_cut [5] (fun t wi => NewPic W0 (P : Int) (H : Int) n l t wi)
  case first =>
    have ne0 : ¬ w.heap.size = W0.heap.size := by omega
    have ne1 : ¬ W0.heap.size = w.heap.size := by omega
    have HBW := Below.refl W0.heap.size W0
    go_region_held3 (fun w' => w'.cell? ⟨w.heap.size, 0, none⟩ = some (.int .i64 (P : Int)) ∧ w'.cell? ⟨w.heap.size, 1, none⟩ = some (.int .i64 (H : Int)) ∧ w'.cell? ⟨w.heap.size, 2, none⟩ = some (.slice (some ⟨ab, ao, none⟩) n c)) (first | exact ⟨n0, n1, n2⟩ | go_keep)
      (first | (refine step_append_lies _ rfl _ _ 47 rfl W0.heap.size 42 i0 (.agg #[.int .i64 0, .int .i64 0]) 2 16 rfl hi hz0 hz1 hz2 rfl (by decide) (.slice none 0 0) 0 [] rfl (World.ownsRow_nil _ _ _ _) ⟨ab, ao, none⟩ n c (pxCells l) rfl Hblk.out.symm (fun j u hu => Hnews.out _ (by have hB := HBW; ((repeat (first | with_reducible exact hB | with_reducible refine Below.alloc ?_ (by have := hB.size; simp; try omega) _ | with_reducible refine Below.setCell ?_ (by have := hB.size; simp; try omega) _ | with_reducible refine below_drewN ?_ _ | with_reducible refine Below.drew ?_)))) j u hu) (fun u hu => pxCells_cell hu) (by omega) (by unfold maxLen; omega) (by omega) (by first | exact Nat.le_refl _ | (simp; done) | (simp; omega)) _ rfl ?_; intro g cap w' hown hg hgg hlt; have hgg2 := (hgg.resolve_left (by intro e; cases e)); have hbw := below_gb hg; have hbz := hbw.size; (try simp at hbz); (try simp at hgg2); have HBW : Below W0.heap.size W0 w' := bnext (by have hB := HBW; ((repeat (first | with_reducible exact hB | with_reducible refine Below.alloc ?_ (by have := hB.size; simp; try omega) _ | with_reducible refine Below.setCell ?_ (by have := hB.size; simp; try omega) _ | with_reducible refine below_drewN ?_ _ | with_reducible refine Below.drew ?_)))) hbw; obtain ⟨hbc, hbf⟩ := bcell hbw; have ne0 : ¬ w.heap.size = w'.heap.size := (by have := HBW.size; omega); have ne1 : ¬ w'.heap.size = w.heap.size := (by have := HBW.size; omega); have n0 := held_cell (b := w.heap.size) (o := 0) (v := .int .i64 (P : Int)) HBW (by omega) c0; have n1 := held_cell (b := w.heap.size) (o := 1) (v := .int .i64 (H : Int)) HBW (by omega) c1; have n2 := held_cell (b := w.heap.size) (o := 2) (v := .slice (some ⟨ab, ao, none⟩) n c) HBW (by omega) c2; skip))
    all_goals (go_wp2_with fail)
    all_goals go_meet
    all_goals (simp only [Nat.zero_add, List.nil_append] at hown)
    all_goals (have hws := HBW.size)
    all_goals (refine ⟨_, g, cap, rfl, by first | omega | (simp; omega), by first | omega | (simp; done) | (simp; omega), by omega, by first | omega | (simp; done) | (simp; omega), by omega, ?_, ?_, ?_, ?_, ?_⟩)
    all_goals (try (first | (go_simp; done) | (simp [hbc]; done) | (simp [hbc, hgg2]; done) | (rw [hgg2]; go_simp; done)))
    all_goals (try (first | exact own_keep hown ((Below.refl _ _).alloc (Nat.le_refl _) _) | exact own_off (own_off (own_off hown (by omega)) (by omega)) (by omega)))
    all_goals (try (have hB := HBW; (repeat (first | with_reducible exact hB | with_reducible refine Below.alloc ?_ (by have := hB.size; simp; try omega) _ | with_reducible refine Below.setCell ?_ (by have := hB.size; simp; try omega) _ | with_reducible refine below_drewN ?_ _ | with_reducible refine Below.drew ?_)); done))
  case rest =>
    obtain ⟨gr, gp, cap, rfl, hgr, hgr2, hgp, hgp2, hne, p0, p1, p2, hown, hbw⟩ := hcut
    obtain ⟨cc, hcc⟩ : ∃ cc, (fun j i => sh && (onB ⟨cx, cy, cw, ch⟩ j i && onB ⟨x, y, (Q : Int), (K : Int)⟩ j i)) = cc := ⟨_, rfl⟩
    have Hcc := hid hcc
    clear hcc
    obtain ⟨vv, hvv⟩ : ∃ vv : Nat → Nat → Px, (fun j i => overP (srcP ⟨(Q : Int), (K : Int), q⟩ x y j i) (l.getD (j * P + i) (0, 0))) = vv := ⟨_, rfl⟩
    have Hvv := hid hvv
    clear hvv
    have hnPH : n = P * H := by
      have h1 := R5.out
      have h2 := Hl.out
      have h3 : ((l.length : Nat) : Int) = ((P * H : Nat) : Int) := by rw [h1]; simp
      omega
    have HnPH := hid hnPH
    have Hlen := hid (Hl.out.trans hnPH)
    clear hnPH
    have hP : 0 < P := by omega
    have HCLIP := hid (fun (i j : Nat) W => rhas_any ⟨cx, cy, cw, ch⟩ (i : Int) (j : Int) (by simp; omega) (by simp; omega) (by simp; omega) (by simp; omega) W)
    have HHAS := hid (fun (i j : Nat) W => rhas_any ⟨x, y, (Q : Int), (K : Int)⟩ (i : Int) (j : Int) (by simp; omega) (by simp; omega) (by simp; omega) (by simp; omega) W)
    have hzc := hbw.size
    have b0 := held_cell hbw (by omega) c0
    have b1 := held_cell hbw (by omega) c1
    have b2 := held_cell hbw (by omega) c2
    have q1 := held_cell hbw (by omega) d1
    have q2 := held_cell hbw (by omega) d2
    have q3 := held_cell hbw (by omega) d3
    have q4 := held_cell hbw (by omega) d4
    have q5 := held_cell hbw (by omega) d5
    have q6 := held_cell hbw (by omega) d6
    have q7 := held_cell hbw (by omega) d7
    have q8 := held_cell hbw (by omega) d8
    have q9 := held_cell hbw (by omega) d9
    have q10 := held_cell hbw (by omega) d10
    have u0 := held_cell hbw (by omega) e0
    have u1 := held_cell hbw (by omega) e1
    have u2 := held_cell hbw (by omega) e2
    have FZ3 := hid (fun o => (hbw.frozen (p := ⟨w.heap.size + 1 + 1, o, none⟩) (by show w.heap.size + 1 + 1 < W0.heap.size; omega)).trans (FZ.out o))
    have hB3 := bnext hB0 hbw
    have Hqx := hid (fun k hk => (And.intro ((hB3.cell (p := ⟨qb, qo + k * 2, none⟩) hqb).trans (Hqc.out k hk).1) ((hB3.cell (p := ⟨qb, qo + k * 2 + 1, none⟩) hqb).trans (Hqc.out k hk).2)))
    have Hax := hid (fun k hk => (And.intro ((hB3.cell (p := ⟨ab, ao + k * 2, none⟩) hab).trans (Hac.out k hk).1) ((hB3.cell (p := ⟨ab, ao + k * 2 + 1, none⟩) hab).trans (Hac.out k hk).2)))
    rw [z0] at hown hgr hgp
    clear c0 c1 c2 d1 d2 d3 d4 d5 d6 d7 d8 d9 d10 e0 e1 e2 hbw hB0 Hnews Hnews0 Hblk hi hz0 hz1 hz2 i0
    go_wp2_with fail
    go_loopw [6] (fun jv wr => ∃ j : Nat, jv = .int .i64 j ∧ j ≤ H ∧ wr.ownsRow (w.heap.size + 3) 42 2 (.slice (some ⟨gp, 0, none⟩) n cap) n (pxCells (upd P l cc vv j 0)) ∧ wc.grownBy wr (some gp)) (fun jv _ => H - (intOf jv).toNat)
    case atStart => exact ⟨0, rfl, by omega, by rw [upd_zero]; exact hown, gb_refl _ _⟩
    case round =>
      clear hown
      obtain ⟨j, rfl, hj2, hown, hgb⟩ := hrel
      have y1 := gb_cell hgb (b := w.heap.size) (by omega) (by omega) b1
      by_cases hj : (j : Int) < (H : Int)
      · go_wp2_with fail
        obtain ⟨wo, rfl⟩ : ∃ wo : World, wo = wr := ⟨_, rfl⟩
        go_loopw [7] (fun iv wr => ∃ i : Nat, iv = .int .i64 i ∧ i ≤ P ∧ wr.ownsRow (w.heap.size + 3) 42 2 (.slice (some ⟨gp, 0, none⟩) n cap) n (pxCells (upd P l cc vv j i)) ∧ wc.grownBy wr (some gp)) (fun iv _ => P - (intOf iv).toNat)
        case atStart => exact ⟨0, rfl, by omega, hown, hgb⟩
        case round =>
          clear hown hgb y1
          obtain ⟨i, rfl, hi2, hown, hgb⟩ := hrel
          have y0 := gb_cell hgb (b := w.heap.size) (by omega) (by omega) b0
          by_cases hi : (i : Int) < (P : Int)
          · have hjH : j < H := by omega
            have hiP : i < P := by omega
            have y1 := gb_cell hgb (b := w.heap.size + 1) (by omega) (by omega) q1
            have y2 := gb_cell hgb (b := w.heap.size + 1) (by omega) (by omega) q2
            have y3 := gb_cell hgb (b := w.heap.size + 1) (by omega) (by omega) q3
            have y4 := gb_cell hgb (b := w.heap.size + 1) (by omega) (by omega) q4
            have y5 := gb_cell hgb (b := w.heap.size + 1) (by omega) (by omega) q5
            have y6 := gb_cell hgb (b := w.heap.size + 1) (by omega) (by omega) q6
            have y7 := gb_cell hgb (b := w.heap.size + 1) (by omega) (by omega) q7
            have y8 := gb_cell hgb (b := w.heap.size + 1) (by omega) (by omega) q8
            have y9 := gb_cell hgb (b := w.heap.size + 1) (by omega) (by omega) q9
            have y10 := gb_cell hgb (b := w.heap.size + 1) (by omega) (by omega) q10
            have Hown := hid hown
            clear hown
            go_wp2_with fail
            refine (HCLIP.out i j _).mono ?_
            rintro e w1 ⟨rfl, hb1⟩
            have hown1 := own_keep Hown.out hb1
            have hgb1 := gb_below hgb hb1
            clear Hown hgb y0 y1 y2 y3 y4 y5 y6 y7 y8 y9 y10 hb1
            have Hown1 := hid hown1
            clear hown1
            have hz1 := hgb1.size
            have y1 := gb_cell hgb1 (b := w.heap.size + 1) (by omega) (by omega) q1
            have y2 := gb_cell hgb1 (b := w.heap.size + 1) (by omega) (by omega) q2
            have y3 := gb_cell hgb1 (b := w.heap.size + 1) (by omega) (by omega) q3
            have y4 := gb_cell hgb1 (b := w.heap.size + 1) (by omega) (by omega) q4
            go_wp2_with fail
            refine (HHAS.out i j _).mono ?_
            rintro e w2 ⟨rfl, hb2⟩
            have hown2 := own_keep Hown1.out hb2
            have hgb2 := gb_below hgb1 hb2
            have hz2 := hgb2.size
            have Hown2 := hid hown2
            clear hb2 y1 y2 y3 y4 hgb1 Hown1 hz1 hown2
            have y10 := gb_cell hgb2 (b := w.heap.size + 1) (by omega) (by omega) q10
            have hcceq : (sh && (hasB ⟨cx, cy, cw, ch⟩ (i : Int) (j : Int) && hasB ⟨x, y, (Q : Int), (K : Int)⟩ (i : Int) (j : Int))) = cc j i := by rw [← Hcc.out]; rfl
            obtain ⟨b1', hb1'⟩ : ∃ b, hasB ⟨cx, cy, cw, ch⟩ (i : Int) (j : Int) = b := ⟨_, rfl⟩
            obtain ⟨b2', hb2'⟩ : ∃ b, hasB ⟨x, y, (Q : Int), (K : Int)⟩ (i : Int) (j : Int) = b := ⟨_, rfl⟩
            rw [hb1', hb2'] at hcceq
            rw [hb1', hb2']
            by_cases hcj : cc j i = true
            · rw [hcj] at hcceq
              obtain ⟨rfl, rfl, rfl⟩ : sh = true ∧ b1' = true ∧ b2' = true := by simpa using hcceq
              clear hcceq hb1'
              have hKn := at_lt hjH hiP
              have hsrc := src_lt (q := ⟨(Q : Int), (K : Int), q⟩) (x := x) (y := y) (j := j) (i := i) Hfs.out hb2'
              have hon := has_iff.1 hb2'
              simp only at hsrc hon
              have hread := upd_at (c := cc) (v := vv) Hlen.out hjH hiP
              have hstep := upd_step (c := cc) (v := vv) Hlen.out hjH hiP hcj
              have hvv : vv j i = overP (srcP ⟨(Q : Int), (K : Int), q⟩ x y j i) (l.getD (j * P + i) (0, 0)) := by rw [← Hvv.out]
              unfold srcP at hvv
              simp only at hvv
              obtain ⟨KK, hKK⟩ : ∃ KK, j * P + i = KK := ⟨_, rfl⟩
              obtain ⟨JP, hJP⟩ : ∃ JP, j * P = JP := ⟨_, rfl⟩
              obtain ⟨SS, hSS⟩ : ∃ SS : Nat, ((j : Int) - y) * (Q : Int) + (i : Int) - x = (SS : Int) := ⟨(((j : Int) - y) * (Q : Int) + (i : Int) - x).toNat, by omega⟩
              obtain ⟨M1, hM1⟩ : ∃ M1 : Int, (j : Int) - y = M1 := ⟨_, rfl⟩
              obtain ⟨M2, hM2⟩ : ∃ M2 : Int, M1 * (Q : Int) = M2 := ⟨_, rfl⟩
              have hJPi : (j : Int) * (P : Int) = (JP : Int) := by rw [← hJP]; simp
              have hM1b : 0 ≤ M1 ∧ M1 ≤ 8 := by omega
              have hM2b : 0 ≤ M2 ∧ M2 ≤ 64 := by
                have t1 : 0 ≤ M1 * (Q : Int) := Int.mul_nonneg hM1b.1 (by omega)
                have t2 : M1 * (Q : Int) ≤ 8 * 8 := Int.mul_le_mul hM1b.2 (by omega) (by omega) (by omega)
                omega
              rw [hSS] at hsrc hvv
              rw [hM1, hM2] at hSS
              rw [hKK] at hKn hread hstep hvv
              rw [Int.toNat_natCast] at hvv
              have hKl : KK < l.length := by rw [Hlen.out]; exact hKn
              have hSl : SS < q.length := by omega
              rw [List.getD_eq_getElem?_getD, List.getElem?_eq_getElem hSl, List.getD_eq_getElem?_getD, List.getElem?_eq_getElem hKl, Option.getD_some, Option.getD_some] at hvv
              rw [List.getElem?_eq_getElem hKl] at hread
              obtain ⟨s0, s1⟩ := Hqx.out SS hSl
              obtain ⟨t0, t1⟩ := Hax.out KK hKl
              obtain ⟨fa0, fa1, fa2, fa3⟩ := Hfr.out.2.2.2.2.2 l[KK] (List.getElem_mem hKl)
              obtain ⟨fb0, fb1, fb2, fb3⟩ := Hfs.out.2.2.2.2.2 q[SS] (List.getElem_mem hSl)
              generalize l[KK] = pa at *
              generalize q[SS] = pb at *
              obtain ⟨pav, paa⟩ := pa
              obtain ⟨pbv, pba⟩ := pb
              simp only at s0 s1 t0 t1 fa0 fa1 fa2 fa3 fb0 fb1 fb2 fb3
              have Hcall := hid (fun W => rover_any pbv pba pav paa ⟨fb0, fb1⟩ ⟨fb2, fb3⟩ ⟨fa0, fa1⟩ ⟨fa2, fa3⟩ W)
              have Hvj := hid hvv
              have Hread := hid hread
              clear hread
              have Hstep := hid hstep
              have hKKn : KK < n := by rw [HnPH.out]; exact hKn
              have hSm : SS < m := by rw [← Hq.out]; exact hSl
              have w1' : IntKind.i64.wrap ((j : Int) * (P : Int)) = (JP : Int) := by rw [hJPi]; exact IntWalk.i64_in _ (by omega)
              have w2' : IntKind.i64.wrap ((JP : Int) + (i : Int)) = (KK : Int) := by rw [show (JP : Int) + (i : Int) = (KK : Int) by omega]; exact IntWalk.i64_in _ (by omega)
              have w3 : IntKind.i64.wrap ((j : Int) - y) = M1 := by rw [hM1]; exact IntWalk.i64_in _ (by omega)
              have w4 : IntKind.i64.wrap (M1 * (Q : Int)) = M2 := by rw [hM2]; exact IntWalk.i64_in _ (by omega)
              have w5 : IntKind.i64.wrap (M2 + (i : Int)) = M2 + (i : Int) := IntWalk.i64_in _ (by omega)
              have w6 : IntKind.i64.wrap (M2 + (i : Int) - x) = (SS : Int) := by rw [hSS]; exact IntWalk.i64_in _ (by omega)
              have x1 : (0 : Int) ≤ (KK : Int) := by omega
              have x2 : (KK : Int) < (n : Int) := by omega
              have x3 : (0 : Int) ≤ (SS : Int) := by omega
              have x4 : (SS : Int) < (m : Int) := by omega
              go_upto_region 11 with fail
              have z1 := gb_cell hgb2 (b := w.heap.size) (by omega) (by omega) b0
              have z2 := gb_cell hgb2 (b := w.heap.size) (by omega) (by omega) b2
              have z3 := gb_cell hgb2 (b := w.heap.size + 1) (by omega) (by omega) q1
              have z4 := gb_cell hgb2 (b := w.heap.size + 1) (by omega) (by omega) q2
              have z5 := gb_cell hgb2 (b := w.heap.size + 1) (by omega) (by omega) q3
              have z6 := gb_cell hgb2 (b := w.heap.size + 1) (by omega) (by omega) q5
              have z7 := gb_cell hgb2 (b := qb) (by omega) (by omega) s0
              have z8 := gb_cell hgb2 (b := qb) (by omega) (by omega) s1
              have z9 := gb_cell hgb2 (b := ab) (by omega) (by omega) t0
              have z10 := gb_cell hgb2 (b := ab) (by omega) (by omega) t1
              have z11 := gb_cell hgb2 (b := gr) (by omega) (by omega) p2
              have hgw : gp < w2.heap.size := by omega
              have fz0 := Hown2.out.frozenAt (KK * 2)
              have fz1 := Hown2.out.frozenAt (KK * 2 + 1)
              obtain ⟨o0, o1⟩ := own_px Hown2.out Hread.out
              clear hvv hstep hsrc hon hcj hKn hKK hJP hM1 hM2 hJPi hSS hKl hSl s0 s1 t0 t1 b0 b1 b2 q1 q2 q3 q4 q5 q6 q7 q8 q9 q10 u0 u1 u2 hM1b hM2b p0 p1 p2 y10 hb2'
              have F1 := cell_all2 (b := w.heap.size) (by omega) z1
              have F2 := cell_all2 (b := w.heap.size) (by omega) z2
              have F3 := cell_all2 (b := w.heap.size + 1) (by omega) z3
              have F4 := cell_all2 (b := w.heap.size + 1) (by omega) z4
              have F5 := cell_all2 (b := w.heap.size + 1) (by omega) z5
              have F6 := cell_all2 (b := w.heap.size + 1) (by omega) z6
              have F7 := cell_all2 (b := qb) (by omega) z7
              have F8 := cell_all2 (b := qb) (by omega) z8
              have F9 := cell_all2 (b := ab) (by omega) z9
              have F10 := cell_all2 (b := ab) (by omega) z10
              have F11 := cell_all2 (b := gr) (by omega) z11
              have r1 := fun dd os => Ret.regrown (Hcall.out (grow (redrawn w2 dd) os))
              clear z1 z2 z3 z4 z5 z6 z7 z8 z9 z10 z11
              (refine wp_region_last_at 38 _ rfl (by kernel_rfl) (by kernel_rfl) (by kernel_rfl) ?_; simp only [List.take_succ_cons, List.take_zero])
              repeat (quiet_step (first | exact r1 _ _))
              (refine wpQuiet_nil ?_; intro _ hw'; obtain ⟨⟨dq, osq⟩, hw''⟩ := hw'; subst hw'')
              have hb3 := below_regrown w2 dq osq
              have hown3 := own_keep Hown2.out hb3
              have hgb3 := gb_below hgb2 hb3
              have n7 := cell_all2 hgw o0 dq osq
              have n8 := cell_all2 hgw o1 dq osq
              have n9 := (hb3.frozen (p := ⟨gp, KK * 2, none⟩) hgw).trans fz0
              have n10 := (hb3.frozen (p := ⟨gp, KK * 2 + 1, none⟩) hgw).trans fz1
              clear F1 F2 F3 F4 F5 F6 F7 F8 F9 F10 F11 r1 hb3 fz0 fz1 o0 o1 hgb2 w1' w2' w3 w4 w5 w6
              generalize grow (redrawn w2 dq) osq = w9 at *
              have hset := own_set hown3 KK (overP (pbv, pba) (pav, paa))
              rw [← Hvj.out, Hstep.out, Hvj.out] at hset
              have Hset := hid hset
              clear hset
              go_wp2_with fail
              go_roundw
              case rel => exact ⟨i + 1, by go_num, by omega, Hset.out, gb_set (gb_set hgb3 _ _) _ _⟩
              case measure => simp [intOf]; omega
            · have hcf : cc j i = false := by simpa using hcj
              rw [hcf] at hcceq
              have hsk := hid (upd_skip (w := P) (l := l) (v := vv) hcf)
              clear hcj hcf hb1' hb2'
              have hown2 := Hown2.out
              have Hcce := hid hcceq
              clear hcceq
              cases sh
              · go_wp2_with fail
                go_roundw
                case rel => exact ⟨i + 1, by go_num, by omega, by rw [← hsk.out]; exact Hown2.out, hgb2⟩
                case measure => simp [intOf]; omega
              · cases b1'
                · go_wp2_with fail
                  go_roundw
                  case rel => exact ⟨i + 1, by go_num, by omega, by rw [← hsk.out]; exact Hown2.out, hgb2⟩
                  case measure => simp [intOf]; omega
                · cases b2'
                  · go_wp2_with fail
                    go_roundw
                    case rel => exact ⟨i + 1, by go_num, by omega, by rw [← hsk.out]; exact Hown2.out, hgb2⟩
                    case measure => simp [intOf]; omega
                  · exact absurd Hcce.out (by simp)
          · have Hown := hid (upd_next (c := cc) (v := vv) hP Hlen.out (j := j) (i := i) (by omega))
            rw [Hown.out] at hown
            go_wp2_with fail
            go_roundw
            case rel => exact ⟨j + 1, by go_num, by omega, hown, hgb⟩
            case measure => simp [intOf]; omega
      · have Hfin := hid (upd_all (c := cc) (v := vv) hP Hlen.out (j := j) (by omega))
        rw [Hfin.out] at hown
        have m0 := gb_cell hgb (b := gr) (by omega) (by omega) p0
        have m1 := gb_cell hgb (b := gr) (by omega) (by omega) p1
        have m2 := gb_cell hgb (b := gr) (by omega) (by omega) p2
        have m3 := gb_cell hgb (b := w.heap.size + 1 + 1) (by omega) (by omega) u0
        have m4 := gb_cell hgb (b := w.heap.size + 1 + 1) (by omega) (by omega) u1
        have m5 := gb_cell hgb (b := w.heap.size + 1 + 1) (by omega) (by omega) u2
        have m6 := gb_frozen hgb (b := w.heap.size + 1 + 1) (o := 0) (by omega) (by omega) (FZ3.out 0)
        have m7 := gb_frozen hgb (b := w.heap.size + 1 + 1) (o := 1) (by omega) (by omega) (FZ3.out 1)
        have m8 := gb_frozen hgb (b := w.heap.size + 1 + 1) (o := 2) (by omega) (by omega) (FZ3.out 2)
        clear b0 b1 b2 q1 q2 q3 q4 q5 q6 q7 q8 q9 q10 u0 u1 u2 p0 p1 p2
        have Hchg := hid (lay_eq (l := l) (q := q) (x := x) (y := y) (P := P) (H := H) (Q := Q) (K := K) (id' := oid) Hcc.out Hvv.out)
        have hlen := (show (updL P l cc vv).length = n by rw [updL_len]; exact Hl.out)
        have HH := hid hown
        clear hown
        go_wp2_with fail
        refine bodyPost_ret (v := .agg #[.int .i64 (P : Int), .int .i64 (H : Int), .slice (some ⟨gp, 0, none⟩) n cap]) (by simp [results, Try.results52, go_sem, m3, m4, m5]) rfl ?_
        refine ⟨some ⟨gp, 0, none⟩, cap, ?_, ?_, fun a e => by injection e with e; subst e; show w.heap.size ≤ gp; omega, ?_⟩
        · rw [Hchg.out]; simp only; rw [hlen]
        · rw [Hchg.out]; simp only; rw [hlen]
          exact pixs_own (ownsRow_setCell_below (ownsRow_setCell_below (ownsRow_setCell_below HH.out (by show w.heap.size + 1 + 1 < _; omega) _) (by show w.heap.size + 1 + 1 < _; omega) _) (by show w.heap.size + 1 + 1 < _; omega) _) hlen
        · refine Below.setCell (Below.setCell (Below.setCell ?_ ?_ _) ?_ _) ?_ _
          · exact below_grown hB3 hgb (by have := hB3.size; omega) (by omega)
          all_goals (show w.heap.size ≤ w.heap.size + 1 + 1; omega)
end Fb
