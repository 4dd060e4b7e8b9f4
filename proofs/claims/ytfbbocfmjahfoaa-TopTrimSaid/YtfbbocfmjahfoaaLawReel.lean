/- The walk of flickerbooklaw.ReelSays: it returns true and writes nothing that was there. Conditions: the arguments are well formed. -/
import Derived.Test.YtfbbocfmjahfoaaReelTrimmed
import Derived.Test.YtfbbocfmjahfoaaOpen2
namespace Fb
open Go Go.Proofs Go.RowKit Go.Sort
/-- a frame without a picture -/
def bare (d : Int) : FAt FFrame := ⟨⟨⟨0, 0, []⟩, d⟩, none, 0, 0⟩
theorem frames_two (w : World) (a b : Int) : Frames (w.alloc (.cells #[.int .i64 0, .int .i64 0, .slice none 0 0, .int .i64 a, .int .i64 0, .int .i64 0, .slice none 0 0, .int .i64 b] 36)) (some ⟨w.heap.size, 0, none⟩) 2 [bare a, bare b] :=
  ⟨rfl, row_new w #[.int .i64 0, .int .i64 0, .slice none 0 0, .int .i64 a, .int .i64 0, .int .i64 0, .slice none 0 0, .int .i64 b] 36 2 4 rfl, fun r hr => by
    simp at hr
    rcases hr with rfl | rfl <;> exact pixs_none _ _⟩
theorem delays_two : delays (frs [bare 2, bare 3]) = 5 := by decide
theorem at_two : atL (frs [bare 2, bare 3]) 2 = 1 := by decide
theorem fine_two : FineFr (frs [bare 2, bare 3]) := by
  intro f hf
  simp [frs, bare] at hf
  rcases hf with rfl | rfl <;> simp
theorem light_fine {rs : List (FAt FFrame)} (h : lightB rs = true) : rs.length ≤ 50 ∧ FineFr (frs rs) ∧ Small rs ∧ ∀ r ∈ rs, 0 ≤ r.x.delay ∧ r.x.delay ≤ 99 := by
  unfold lightB at h
  simp only [Bool.and_eq_true, decide_eq_true_eq, List.all_eq_true] at h
  have hr : ∀ r ∈ rs, (0 ≤ r.x.delay ∧ r.x.delay ≤ 99) ∧ r.n ≤ 80 := fun r hr => by
    have := h.2 r hr
    unfold lightF at this
    simpa using this
  refine ⟨h.1, ?_, ?_, fun r h => (hr r h).1⟩
  · intro f hf
    obtain ⟨r, hm, rfl⟩ := List.mem_map.1 hf
    have := hr r hm
    omega
  · intro r hm
    have := (hr r hm).2
    omega
set_option maxRecDepth 100000 in
set_option maxHeartbeats 2000000 in
theorem reelSays_walk (A : Option Addr) (n c : Nat) (rs : List (FAt FFrame)) (m : Int) (w : World) (hl : Frames w A n rs) (hn : n ≤ maxLen) (hm : m ≤ 9223372036854775807) :
    Calls Try.prog 4 #[.slice A n c, .int .i64 m] w (Ret (.bool true) w) := by
  have hd5 := delays_two
  have ha1 := at_two
  have Hl := hid hl.1
  have hB0 := (Below.refl w.heap.size w).alloc (Nat.le_refl _) (.cells #[.int .i64 0, .int .i64 0, .slice none 0 0, .int .i64 2, .int .i64 0, .int .i64 0, .slice none 0 0, .int .i64 3] 36)
  go_enter Try.func4, Try.ntmps4
  go_wp2_with fail
  refine (length_any _ 2 2 [bare 2, bare 3] _ (frames_two w 2 3) (by decide) fine_two).mono ?_
  rintro e w1 ⟨rfl, hb⟩
  have hB1 := bnext hB0 hb
  rw [hd5]
  clear hb hB0 hd5
  have hB2 := hB1.alloc hB1.size (.cells #[.int .i64 0, .int .i64 0, .slice none 0 0, .int .i64 2, .int .i64 0, .int .i64 0, .slice none 0 0, .int .i64 3] 36)
  go_wp2_with fail
  refine (at_any _ 2 2 [bare 2, bare 3] 2 _ (frames_two w1 2 3) (by decide) fine_two (by decide)).mono ?_
  rintro e w2 ⟨rfl, hb⟩
  have hB3 := bnext hB2 hb
  rw [ha1]
  clear hb hB1 hB2 ha1
  go_wp2_with fail
  refine (lightframes_any A n c rs _ (hl.below hB3) hn).mono ?_
  rintro e w3 ⟨rfl, hb⟩
  have hB4 := bnext hB3 hb
  clear hb hB3
  cases hlb : lightB rs
  · clear hl
    go_wp2_with fail
    go_ret
    exact ⟨rfl, hB4⟩
  · obtain ⟨h50, hf, sm, -⟩ := light_fine hlb
    rw [Hl.out] at h50
    have HF := hid hf
    have SM := hid sm
    have HL := hid hl
    clear hlb hf sm hl
    go_wp2_with fail
    go_loopw [5] (fun i wr => ∃ k : Nat, 1 ≤ k ∧ k ≤ n + 1 ∧ i = .int .i64 k ∧ Below w.heap.size w wr) (fun i _ => n + 1 - (intOf i).toNat)
    case atStart => exact ⟨1, by omega, by omega, rfl, hB4⟩
    case round =>
      clear hB4
      obtain ⟨k, hk1, hk2, rfl, hbel⟩ := hrel
      by_cases hlt : k < n
      · obtain ⟨b, o, rfl, hb, hc⟩ := HL.out.open_ (by omega)
        have hz := hbel.size
        have hbr : b < wr.heap.size := by omega
        obtain ⟨q, rfl⟩ : ∃ q, k = q + 1 := ⟨k - 1, by omega⟩
        have k1 : q < rs.length := by rw [Hl.out]; omega
        have k2 : q + 1 < rs.length := by rw [Hl.out]; omega
        obtain ⟨c0, c1, c2, -⟩ := hc q k1
        obtain ⟨d0, d1, d2, -⟩ := hc (q + 1) k2
        have F0 := cell_all (p := ⟨b, o + q * 4, none⟩) hbr ((hbel.cell hb).trans c0)
        have F1 := cell_all (p := ⟨b, o + q * 4 + 1, none⟩) hbr ((hbel.cell hb).trans c1)
        have F2 := cell_all (p := ⟨b, o + q * 4 + 2, none⟩) hbr ((hbel.cell hb).trans c2)
        have E0 := cell_all (p := ⟨b, o + (q + 1) * 4, none⟩) hbr ((hbel.cell hb).trans d0)
        have E1 := cell_all (p := ⟨b, o + (q + 1) * 4 + 1, none⟩) hbr ((hbel.cell hb).trans d1)
        have E2 := cell_all (p := ⟨b, o + (q + 1) * 4 + 2, none⟩) hbr ((hbel.cell hb).trans d2)
        have p1 := (HL.out.2.2 rs[q] (List.getElem_mem k1)).below hbel
        have p2 := (HL.out.2.2 rs[q + 1] (List.getElem_mem k2)).below hbel
        have s1 := SM.out rs[q] (List.getElem_mem k1)
        have s2 := SM.out rs[q + 1] (List.getElem_mem k2)
        have r1 := fun dd os => Ret.regrown (same_pic_any ⟨rs[q].x.pic, rs[q].A, rs[q].n, rs[q].c⟩ ⟨rs[q + 1].x.pic, rs[q + 1].A, rs[q + 1].n, rs[q + 1].c⟩ (grow (redrawn wr dd) os) (p1.all dd os) (p2.all dd os) s1 s2)
        have r2 := fun dd os => Ret.regrown (rsame_pic_any ⟨rs[q].x.pic, rs[q].A, rs[q].n, rs[q].c⟩ ⟨rs[q + 1].x.pic, rs[q + 1].A, rs[q + 1].n, rs[q + 1].c⟩ (grow (redrawn wr dd) os) (p1.all dd os) (p2.all dd os) s1 s2)
        simp only at r1 r2
        generalize samePic rs[q].x.pic rs[q + 1].x.pic = pb at r1 r2
        have i1 : IntKind.i64.wrap (q : Int) = (q : Int) := IntWalk.i64_in _ (by unfold maxLen at hn; omega)
        have i2 : (0 : Int) ≤ (q : Int) := by omega
        have i3 : (q : Int) < (n : Int) := by omega
        have i4 : (0 : Int) ≤ (q : Int) + 1 := by omega
        have i5 : (q : Int) + 1 < (n : Int) := by omega
        have i6 : ((q : Int) + 1).toNat = q + 1 := by omega
        clear c0 c1 c2 d0 d1 d2 hc p1 p2 s1 s2
        go_wp2_with fail
        refine wp_region_quiet_below (by kernel_rfl) (by kernel_rfl) ?_
        repeat (quiet_step (first | (go_at_call 22; exact r1 _ _) | (go_at_call 23; exact r2 _ _)))
        (refine wpQuiet_nil ?_; intro _ hw'; obtain ⟨⟨dq, osq⟩, hw''⟩ := hw'; subst hw'')
        have hb3 := bnext hbel (below_regrown wr dq osq)
        clear F0 F1 F2 E0 E1 E2 r1 r2 hbel i1
        generalize grow (redrawn wr dq) osq = w5 at *
        cases pb
        all_goals
          go_wp2_with fail
          go_roundw
          case rel => exact ⟨q + 1 + 1, by omega, by omega, by go_num, hb3⟩
          case measure => simp [intOf]; omega
      · go_wp2_with fail
        refine (length_any A n c rs _ (HL.out.below hbel) (by omega) HF.out).mono ?_
        rintro e w4 ⟨rfl, hb⟩
        have hB4 := bnext hbel hb
        clear hb hbel
        go_wp2_with fail
        refine (rlength_any A n c rs _ (HL.out.below hB4) (by omega) HF.out).mono ?_
        rintro e w5 ⟨rfl, hb⟩
        have hB5 := bnext hB4 hb
        clear hb hB4
        go_wp2_with fail
        refine (at_any A n c rs m _ (HL.out.below hB5) (by omega) HF.out hm).mono ?_
        rintro e w6 ⟨rfl, hb⟩
        have hB6 := bnext hB5 hb
        clear hb hB5
        go_wp2_with fail
        refine (rat_any A n c rs m _ (HL.out.below hB6) (by omega) HF.out).mono ?_
        rintro e w7 ⟨rfl, hb⟩
        have hB7 := bnext hB6 hb
        clear hb hB6
        go_wp2_with fail
        refine (trim_any A n c rs _ (HL.out.below hB7) (by omega) HF.out SM.out).mono ?_
        rintro e w8 ⟨A1, c1, t1, rfl, ht1, sm1, hf1, hb⟩
        have hB8 := bnext hB7 hb
        have HT1 := hid ht1
        have HF1 := hid hf1
        have SM1 := hid sm1
        clear hb hB7 ht1 hf1 sm1
        go_wp2_with fail
        refine (rtrim_any A n c rs _ (HL.out.below hB8) (by omega) HF.out SM.out).mono ?_
        rintro e w9 ⟨A2, c2, t2, rfl, ht2, sm2, hf2, hb⟩
        have HT1 := hid (HT1.out.below hb)
        have hB9 := bnext hB8 hb
        have HT2 := hid ht2
        have HF2 := hid hf2
        have SM2 := hid sm2
        clear hb hB8 ht2 hf2 sm2
        have l1 : t1.length ≤ 1000 := by rw [← frs_len, HF1.out]; have := trimL_len (frs rs); rw [frs_len, Hl.out] at this; omega
        have l2 : t2.length ≤ 1000 := by rw [← frs_len, HF2.out]; have := trimL_len (frs rs); rw [frs_len, Hl.out] at this; omega
        go_wp2_with fail
        refine (rsameframes_any A1 A2 t1.length t2.length c1 c2 t1 t2 _ HT1.out HT2.out (by omega) (by omega) SM1.out SM2.out).mono ?_
        rintro e w10 ⟨rfl, hb⟩
        have hB10 := bnext hB9 hb
        rw [HF1.out, HF2.out, eqFrs_self]
        go_wp2_with fail
        go_ret
        exact ⟨rfl, hB10⟩
theorem wf_bd {m : Int} (h : (Lit.int .i64 m).wf = true) : -9223372036854775808 ≤ m ∧ m ≤ 9223372036854775807 := by
  simp [Lit.wf, IntKind.min, IntKind.max, IntKind.signed, IntKind.bits] at h
  omega
theorem reelSays_row (w : World) (r : FAt (List (FAt FFrame))) (h : Frames w r.A r.n r.x ∧ r.n ≤ r.c ∧ r.c ≤ maxLen ∧ ∀ q ∈ r.x, FrOk w q) (m : Int) (hm : (Lit.int .i64 m).wf = true) :
    Calls Try.prog 4 #[.slice r.A r.n r.c, .int .i64 m] w (Ret (.bool true) w) :=
  reelSays_walk r.A r.n r.c r.x m w h.1 (by have := h.2.1; have := h.2.2.1; omega) (wf_bd hm).2
end Fb
