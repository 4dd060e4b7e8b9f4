/- ref.Played: the document's run of a book. Conditions: the ops lie in memory. Printed by mkrplayed.py. -/
import Derived.Test.YtgkemeclpidmcaaRefStep
import Derived.Test.YtgkemeclpidmcaaRBookFault
set_option linter.unusedSimpArgs false
set_option linter.unusedVariables false
namespace Fb
open Go Go.Proofs Go.RowKit Go.Sort
attribute [local go_sem ↓] Go.wp_at_zero Go.wp_at_succ
theorem play_few {l : List FOp} {f : Int} : (playP l f).1.length ≤ 40 := by
  by_cases hf : bookFault l = 0
  · have hb := book_fine hf
    have hk := runM_ok hb (fuelN f) m0 (m0_ok hb)
    unfold playP endM
    rw [if_neg (by omega)]
    split
    · simp
    · split
      · simp
      · exact hk.few
  · unfold playP
    rw [if_pos hf]
    simp
/-- a new machine of the reference -/
theorem ref_new {w W1 W2 : World} {F : Nat → Prop} {A : Option Addr} {n c y : Nat} {rs : List (FAt FOp)} {l : List FOp} (h : Ops w A n rs) (hs : ∀ r ∈ rs, r.n ≤ 100) (hl : datO rs = l) (hb : Below w.heap.size w W1) (hF : ∀ b, F b → b < W1.heap.size ∧ w.heap.size ≤ b)
    (hy : y = W1.heap.size) (hb2 : Below W1.heap.size W1 W2) (hg : W2.heap[y]? = some (.cells #[.slice A n c, .int .i64 0, .slice none 0 0, .slice none 0 0, .slice none 0 0, .int .i64 0, .int .i64 0, .slice none 0 0] 44)) :
    RefW l m0 F y ⟨A, n, c, rs, none, 0, 0, none, 0, 0, [], none, 0, 0, [], none, 0, 0, []⟩ W2 := by
  have h12 := hb2.size
  have h01 := hb.size
  have hz : ∀ b, RZ F y b → w.heap.size ≤ b := by
    rintro b (e | e)
    · omega
    · exact (hF b e).2
  have hno : FObjs (RZ F y) W2 none 0 [] := ⟨⟨rfl, Row.none_ _ _ _, fun r hr => by cases hr⟩, fun h => by omega, fun r hr => by cases hr⟩
  refine ⟨hg, fun b e => by have := (hF b e).1; omega, fun e => by have := (hF y e).1; omega, ?_⟩
  refine ⟨⟨(h.below hb).below hb2, fun hn a ha hq => ?_, ops_low h hz⟩, hl, hs, Row.none_ _ _ _, fun h => absurd h (Nat.lt_irrefl 0), rfl, Nat.le_refl _, hno, rfl, hno, rfl, Row.none_ _ _ _, fun h => absurd h (Nat.lt_irrefl 0), rfl, rfl, ⟨fun r hr => (by cases hr), fun r hr => (by cases hr)⟩⟩
  have h1 := row_block h.2.1 hn ha
  have h2 := hz _ hq
  omega
/-- what a region reads that asks for the op -/
theorem ref_read {l : List FOp} {s : MSt} {F : Nat → Prop} {y : Nat} {r : RSl} {W : World} (h : RefW l s F y r W) (hat : s.at_ < l.length) :
    ∃ lb lo, W.cell? ⟨y, 0, none⟩ = some (.slice (some ⟨lb, lo, none⟩) r.ln r.lc) ∧ W.cell? ⟨y, 1, none⟩ = some (.int .i64 (s.at_ : Int)) ∧ W.cell? ⟨lb, lo + s.at_ * 9, none⟩ = some (.int .i64 (opAt l s.at_).kind) ∧ (0 : Int) ≤ (s.at_ : Int) ∧ (s.at_ : Int) < (r.ln : Int) ∧ lb < W.heap.size := by
  have hlen : l.length = r.ln := by
    have h1 := h.rest.ops.ops.1
    have h2 := congrArg List.length h.rest.opsd
    rw [datO_len] at h2
    omega
  obtain ⟨lb, lo, r0, hlA, hlb, hr0, hlc⟩ := ops_at h.rest.ops.ops (k := s.at_) (by omega)
  have he0 := ops_fst h.rest.opsd hr0
  have y0 := hlc 0 _ rfl
  rw [← he0, Nat.add_zero] at y0
  obtain ⟨x0, x1, -⟩ := h.cell
  rw [hlA] at x0
  exact ⟨lb, lo, x0, x1, y0, by omega, by omega, hlb⟩
def RetPlayR (X : List FFrame × Nat) (w : World) (e : Ending) (w' : World) : Prop := ∃ A n c rs, e = .returned (.tuple #[.slice A n c, .int .i64 (X.2 : Int)]) ∧ Frames w' A n rs ∧ frD rs = X.1 ∧ Below w.heap.size w w'
theorem retPlayR_nil {X : List FFrame × Nat} {f : Nat} {w w' : World} (h : X = ([], f)) (hb : Below w.heap.size w w') : RetPlayR X w (.returned (.tuple #[.slice none 0 0, .int .i64 (f : Int)])) w' := by
  subst h
  exact ⟨none, 0, 0, [], rfl, ⟨rfl, Row.none_ _ _ _, fun r hr => by cases hr⟩, rfl, hb⟩
theorem retPlayR_some {X : List FFrame × Nat} {l : List FOp} {s : MSt} {F : Nat → Prop} {y : Nat} {r : RSl} {w w' : World} (h : X = (s.frames, 0)) (H : RefW l s F y r w') (hb : Below w.heap.size w w') : RetPlayR X w (.returned (.tuple #[.slice r.fA r.fn r.fc, .int .i64 0])) w' := by
  subst h
  exact ⟨r.fA, r.fn, r.fc, r.frs, rfl, ⟨H.rest.framesn, H.rest.frames, H.rest.pics.pixs⟩, H.rest.framesd, hb⟩
set_option maxRecDepth 100000 in
set_option maxHeartbeats 8000000 in
theorem rplayed_any (A : Option Addr) (n c : Nat) (rs : List (FAt FOp)) (fuel : Int) (w : World) (h : Ops w A n rs) (hs : ∀ r ∈ rs, r.n ≤ 100) (hn : n ≤ 1000000) :
    Calls Try.prog 17 #[.slice A n c, .int .i64 fuel] w (RetPlayR (playP (datO rs) fuel) w) := by
  have C := rbookfault_any A n c rs w h hs hn
  by_cases hf : bookFault (datO rs) = 0
  case neg =>
    have HV := hid (show playP (datO rs) fuel = ([], bookFault (datO rs)) by unfold playP; rw [if_pos hf])
    obtain ⟨f, hF⟩ : ∃ f, bookFault (datO rs) = f := ⟨_, rfl⟩
    rw [hF] at C hf HV
    have i0 : (0 : Int) < (f : Int) := by omega
    clear h hs hn hF hf
    go_enter Try.func17, Try.ntmps17
    go_wp2_with fail
    refine C.mono ?_
    rintro e w1 ⟨rfl, hb⟩
    go_wp2_with fail
    go_ret2
    exact retPlayR_nil HV.out hb
  have hbf := book_fine hf
  rw [hf] at C
  have HV := hid (show playP (datO rs) fuel = endM (datO rs) (runM (datO rs) (fuelN fuel) m0) by unfold playP; rw [if_neg (by omega)])
  obtain ⟨l, hl⟩ : ∃ l, datO rs = l := ⟨_, rfl⟩
  rw [hl] at hbf HV ⊢
  have HF := hid hbf
  have h0 := hid (m0_ok hbf)
  obtain ⟨N, hN⟩ : ∃ N, fuelN fuel = N := ⟨_, rfl⟩
  rw [hN] at HV
  have HNf := hid (show ∀ k : Nat, k < N ↔ (k : Int) < fuel ∧ (k : Int) < 400 by intro k; rw [← hN]; unfold fuelN; omega)
  have hN4 : N ≤ 400 := by rw [← hN]; unfold fuelN; omega
  have HL := hid hl
  have HH := hid h
  have HS := hid hs
  clear h hs hf hbf hl hN hn
  go_enter Try.func17, Try.ntmps17
  go_wp2_with fail
  refine C.mono ?_
  rintro e w1 ⟨rfl, hb⟩
  clear C
  obtain ⟨W2, hW2⟩ : ∃ W2, W2 = w1.alloc (.cells #[.slice A n c, .int .i64 0, .slice none 0 0, .slice none 0 0, .slice none 0 0, .int .i64 0, .int .i64 0, .slice none 0 0] 44) := ⟨_, rfl⟩
  have hb2 : Below w1.heap.size w1 W2 := by rw [hW2]; exact (Below.refl _ _).alloc (Nat.le_refl _) _
  obtain ⟨y, hy⟩ : ∃ y, y = w1.heap.size := ⟨_, rfl⟩
  have hX2 : W2.heap[y]? = some (.cells #[.slice A n c, .int .i64 0, .slice none 0 0, .slice none 0 0, .slice none 0 0, .int .i64 0, .int .i64 0, .slice none 0 0] 44) := by rw [hW2, hy]; exact heap_alloc_new w1 _
  have HR := hid (ref_new (F := fun _ => False) (c := c) HH.out HS.out HL.out hb (fun b e => e.elim) hy hb2 hX2)
  have HB := hid (bnext hb hb2)
  have hyw : w.heap.size ≤ y := by have := hb.size; omega
  clear hX2 hb2
  go_upto_region 5 with fail
  rw [← hW2, ← hy]
  clear hW2 hy hb HH HS HL
  go_upto_region 6 with fail
  go_loopw [8] (fun iv wr => ∃ (k : Nat) (sk : MSt) (rk : RSl), k ≤ N ∧ iv = .int .i64 k ∧ Hid (MOk l sk) ∧ Hid (RefW l sk (fun _ => False) y rk wr) ∧ Hid (playP l fuel = endM l (runM l (N - k) sk)) ∧ Hid (Below w.heap.size w wr)) (fun iv _ => N - (intOf iv).toNat)
  case atStart => exact ⟨0, m0, _, by omega, rfl, h0, HR, HV, HB⟩
  case round =>
    obtain ⟨k, sk, rk, hk, rfl, Hok, HK, HP, HB⟩ := hrel
    clear HR HV h0
    obtain ⟨W9, rfl⟩ : ∃ W9 : World, W9 = wr := ⟨_, rfl⟩
    by_cases hlt : k < N
    · obtain ⟨i1, i2⟩ := (HNf.out k).1 hlt
      obtain ⟨n', hn'⟩ : ∃ n', N - k = n' + 1 := ⟨N - k - 1, by omega⟩
      have hpr := HP.out
      rw [hn', runM] at hpr
      obtain ⟨lb, lo, x0, x1, y0, k0, k1, -⟩ := ref_read HK.out Hok.out.at_
      obtain ⟨kk, hkk⟩ : ∃ kk, (opAt l sk.at_).kind = kk := ⟨_, rfl⟩
      rw [hkk] at y0 hpr
      by_cases h16 : kk = 16
      · subst h16
        rw [if_pos rfl] at hpr
        have HX := hid (show playP l fuel = (sk.frames, 0) by rw [hpr]; unfold endM; rw [if_neg (by simp), if_neg (by simp [hkk])])
        have H16 := hid hkk
        clear hpr hkk
        go_upto_region 8 with fail
        go_quiet (fail)
        go_upto_region 12 with fail
        have hb0 : Below W9.heap.size W9 (W9.drewN nq) := below_drewN (Below.refl _ _) _
        obtain ⟨W1, hW1⟩ : ∃ W1, W1 = W9.drewN nq := ⟨_, rfl⟩
        rw [← hW1] at hb0 ⊢
        have H1 := hid (HK.out.below hb0)
        have HB1 := hid (bnext HB.out hb0)
        clear hW1 hb0
        clear x0 x1 y0
        obtain ⟨lb, lo, x0, x1, y0, k0, k1, -⟩ := ref_read H1.out Hok.out.at_
        rw [H16.out] at y0
        go_quiet (fail)
        go_upto_region 14 with fail
        have hb0 : Below W1.heap.size W1 (W1.drewN nq) := below_drewN (Below.refl _ _) _
        obtain ⟨W3, hW3⟩ : ∃ W3, W3 = W1.drewN nq := ⟨_, rfl⟩
        rw [← hW3] at hb0 ⊢
        have H2 := hid (H1.out.below hb0)
        have HB2 := hid (bnext HB1.out hb0)
        clear hW3 hb0
        clear x0 x1 y0
        obtain ⟨-, -, -, -, -, -, -, x7⟩ := H2.out.cell
        go_wp2_with fail
        go_ret2
        exact retPlayR_some HX.out H2.out HB2.out
      · rw [if_neg h16] at hpr
        have hkf : (kk == 16) = false := by simp [h16]
        clear hkk
        have HPR := hid hpr
        clear hpr
        go_upto_region 8 with fail
        go_quiet (fail)
        go_upto_region 9 with fail
        have hb0 : Below W9.heap.size W9 (W9.drewN nq) := below_drewN (Below.refl _ _) _
        obtain ⟨W1, hW1⟩ : ∃ W1, W1 = W9.drewN nq := ⟨_, rfl⟩
        rw [← hW1] at hb0 ⊢
        have H1 := hid (HK.out.below hb0)
        have HB1 := hid (bnext HB.out hb0)
        clear hW1 hb0
        clear x0 x1 y0
        go_wp2_with fail
        refine (rstep_any l sk (fun _ => False) y rk W1 H1.out HF.out Hok.out).mono ?_
        rintro e w10 ⟨rfl, ⟨r10, hm10⟩, hk10⟩
        have HK10 := hid hm10
        have HB10 := hid (hk10.toBelow HB1.out (by have := HB1.out.size; exact this) (fun b e => by have e : b = y := e; omega))
        have hok10 := hid (step_ok HF.out Hok.out)
        clear hm10 hk10 HK HB H1 HB1
        by_cases hs0 : (stepP l sk).2 = 0
        · have hpr := HPR.out
          rw [if_neg (by omega)] at hpr
          rw [hs0]
          have HP2 := hid (show playP l fuel = endM l (runM l (N - (k + 1)) (stepP l sk).1) by rw [hpr, show N - (k + 1) = n' by omega])
          have e1 : IntKind.i64.wrap ((k : Int) + 1) = (k : Int) + 1 := IntWalk.i64_in _ (by omega)
          clear hpr HPR HP
          go_wp2_with fail
          go_roundw
          case rel => exact ⟨k + 1, (stepP l sk).1, r10, by omega, by go_num, hok10, HK10, HP2, HB10⟩
          case measure => simp [intOf]; omega
        · obtain ⟨f, hf⟩ : ∃ f, (stepP l sk).2 = f := ⟨_, rfl⟩
          have hpr := HPR.out
          rw [if_pos hs0] at hpr
          have HX := hid (show playP l fuel = ([], f) by rw [hpr]; unfold endM; rw [if_pos hs0, hf])
          rw [hf]
          have i3 : (0 : Int) < (f : Int) := by omega
          clear hpr HPR HP hf hs0
          go_wp2_with fail
          go_ret2
          exact retPlayR_nil HX.out HB10.out
    · have hpr := HP.out
      rw [show N - k = 0 by omega, runM] at hpr
      obtain ⟨lb, lo, x0, x1, y0, k0, k1, -⟩ := ref_read HK.out Hok.out.at_
      obtain ⟨kk, hkk⟩ : ∃ kk, (opAt l sk.at_).kind = kk := ⟨_, rfl⟩
      rw [hkk] at y0
      have i1 : ¬ ((k : Int) < fuel ∧ (k : Int) < 400) := fun e => hlt ((HNf.out k).2 e)
      by_cases hk4 : (k : Int) < fuel
      · have i2 : ¬ (k : Int) < 400 := fun e => i1 ⟨hk4, e⟩
        clear i1 hlt
        by_cases h16 : kk = 16
        · subst h16
          have HX := hid (show playP l fuel = (sk.frames, 0) by rw [hpr]; unfold endM; rw [if_neg (by simp), if_neg (by simp [hkk])])
          clear hpr hkk
          go_upto_region 12 with fail
          go_quiet (fail)
          go_upto_region 14 with fail
          have hb0 : Below W9.heap.size W9 (W9.drewN nq) := below_drewN (Below.refl _ _) _
          obtain ⟨W1, hW1⟩ : ∃ W1, W1 = W9.drewN nq := ⟨_, rfl⟩
          rw [← hW1] at hb0 ⊢
          have H1 := hid (HK.out.below hb0)
          have HB1 := hid (bnext HB.out hb0)
          clear hW1 hb0
          clear x0 x1 y0
          obtain ⟨-, -, -, -, -, -, -, x7⟩ := H1.out.cell
          go_wp2_with fail
          go_ret2
          exact retPlayR_some HX.out H1.out HB1.out
        · have HX := hid (show playP l fuel = ([], 8) by rw [hpr]; unfold endM; rw [if_neg (by simp), if_pos (by rw [hkk]; exact h16)])
          have hkf : (kk != 16) = true := by simp [h16]
          clear hpr hkk
          go_upto_region 12 with fail
          go_quiet (fail)
          go_upto_region 13 with fail
          have hb0 : Below W9.heap.size W9 (W9.drewN nq) := below_drewN (Below.refl _ _) _
          obtain ⟨W1, hW1⟩ : ∃ W1, W1 = W9.drewN nq := ⟨_, rfl⟩
          rw [← hW1] at hb0 ⊢
          have H1 := hid (HK.out.below hb0)
          have HB1 := hid (bnext HB.out hb0)
          clear hW1 hb0
          clear x0 x1 y0
          go_wp2_with fail
          go_ret2
          exact retPlayR_nil HX.out HB1.out
      · clear i1 hlt
        by_cases h16 : kk = 16
        · subst h16
          have HX := hid (show playP l fuel = (sk.frames, 0) by rw [hpr]; unfold endM; rw [if_neg (by simp), if_neg (by simp [hkk])])
          clear hpr hkk
          go_upto_region 12 with fail
          go_quiet (fail)
          go_upto_region 14 with fail
          have hb0 : Below W9.heap.size W9 (W9.drewN nq) := below_drewN (Below.refl _ _) _
          obtain ⟨W1, hW1⟩ : ∃ W1, W1 = W9.drewN nq := ⟨_, rfl⟩
          rw [← hW1] at hb0 ⊢
          have H1 := hid (HK.out.below hb0)
          have HB1 := hid (bnext HB.out hb0)
          clear hW1 hb0
          clear x0 x1 y0
          obtain ⟨-, -, -, -, -, -, -, x7⟩ := H1.out.cell
          go_wp2_with fail
          go_ret2
          exact retPlayR_some HX.out H1.out HB1.out
        · have HX := hid (show playP l fuel = ([], 8) by rw [hpr]; unfold endM; rw [if_neg (by simp), if_pos (by rw [hkk]; exact h16)])
          have hkf : (kk != 16) = true := by simp [h16]
          clear hpr hkk
          go_upto_region 12 with fail
          go_quiet (fail)
          go_upto_region 13 with fail
          have hb0 : Below W9.heap.size W9 (W9.drewN nq) := below_drewN (Below.refl _ _) _
          obtain ⟨W1, hW1⟩ : ∃ W1, W1 = W9.drewN nq := ⟨_, rfl⟩
          rw [← hW1] at hb0 ⊢
          have H1 := hid (HK.out.below hb0)
          have HB1 := hid (bnext HB.out hb0)
          clear hW1 hb0
          clear x0 x1 y0
          go_wp2_with fail
          go_ret2
          exact retPlayR_nil HX.out HB1.out
end Fb
