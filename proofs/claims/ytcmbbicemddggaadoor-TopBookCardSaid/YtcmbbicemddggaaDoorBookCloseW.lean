/- ref.EndOf, ref.SameOps: what they return. Conditions: a book that may be, or ops that are the same. -/
import Derived.Test.YtcmbbicemddggaaDoorBookClose
import Derived.Test.YtcmbbicemddggaaDoorBookRead
import Derived.Test.YtcmbbicemddggaaDoorBlend
import Derived.BigQuiet
set_option linter.unusedSimpArgs false
set_option linter.unusedVariables false
namespace Fb
open Go Go.Proofs Go.RowKit Go.Sort Go.Maps
attribute [local go_sem ↓] Go.wp_at_zero Go.wp_at_succ
/-! ## ref.EndOf -/
theorem endGo_in {n k d : Nat} {o : FOp} {r : List FOp} (h : o.kind = 12) : endGo n (o :: r) k d = endGo n r (k + 1) (d + 1) := by rw [endGo, if_pos h]
theorem endGo_hit {n k d : Nat} {o : FOp} {r : List FOp} (h : o.kind = 13) (hd : d ≤ 1) : endGo n (o :: r) k d = k := by rw [endGo, if_neg (by omega), if_pos h, if_pos hd]
theorem endGo_out {n k d : Nat} {o : FOp} {r : List FOp} (h : o.kind = 13) (hd : ¬ d ≤ 1) : endGo n (o :: r) k d = endGo n r (k + 1) (d - 1) := by rw [endGo, if_neg (by omega), if_pos h, if_neg hd]
theorem endGo_next {n k d : Nat} {o : FOp} {r : List FOp} (h : o.kind ≠ 12) (h2 : o.kind ≠ 13) : endGo n (o :: r) k d = endGo n r (k + 1) d := by rw [endGo, if_neg h, if_neg h2]
/-! ## ref.SameOps, law.LightOps -/
set_option maxRecDepth 100000 in
set_option maxHeartbeats 2000000 in
theorem rsameops_self (A B : Option Addr) (n m c d : Nat) (rs qs : List (FAt FOp)) (w : World) (h1 : Ops w A n rs) (h2 : Ops w B m qs) (he : datO rs = datO qs) (hs : ∀ r ∈ rs, r.n ≤ 100) (hn : n ≤ 1000) :
    Calls Tryd.prog 11 #[.slice A n c, .slice B m d] w (Ret (.bool true) w) := by
  have hl1 := h1.1
  have hl2 := h2.1
  have hll : rs.length = qs.length := by rw [← datO_len rs, ← datO_len qs, he]
  obtain rfl : n = m := by omega
  have H1 := hid h1
  have H2 := hid h2
  have HE := hid he
  have HS := hid hs
  clear h1 h2 he hs
  go_enter Tryd.func11, Tryd.ntmps11
  go_wp2_with fail
  go_loopw [5] (fun iv wr => ∃ k : Nat, k ≤ n ∧ iv = .int .i64 k ∧ Hid (Below w.heap.size w wr)) (fun iv _ => n - (intOf iv).toNat)
  case atStart => exact ⟨0, by omega, rfl, hid (Below.refl _ _)⟩
  case round =>
    obtain ⟨k, hk, rfl, HB⟩ := hrel
    by_cases hlt : k < n
    · obtain ⟨b1, o1, rfl, hb1, ha1⟩ := Ops.open_ H1.out (by omega)
      obtain ⟨b2, o2, rfl, hb2, ha2⟩ := Ops.open_ H2.out (by omega)
      have hk1 : k < rs.length := by omega
      have hk2 : k < qs.length := by omega
      have hc1 := OpCells.below (ha1 k hk1) HB.out hb1
      have hc2 := OpCells.below (ha2 k hk2) HB.out hb2
      have hp1 := (H1.out.2.2 _ (List.getElem_mem hk1)).below HB.out
      have hp2 := (H2.out.2.2 _ (List.getElem_mem hk2)).below HB.out
      have hps := HS.out _ (List.getElem_mem hk1)
      have hxx : rs[k].x = qs[k].x := by rw [← datO_at hk1, ← datO_at hk2, HE.out]
      obtain ⟨⟨⟨kk, i, a, bb, cc, dd, ⟨pw, ph, pl⟩⟩, qA, qn, qc⟩, hr⟩ : ∃ r, rs[k] = r := ⟨_, rfl⟩
      obtain ⟨⟨x2, rA, rn, rc⟩, hq⟩ : ∃ r, qs[k] = r := ⟨_, rfl⟩
      rw [hr] at hc1 hp1 hps hxx
      rw [hq] at hc2 hp2 hxx
      simp only at hxx
      subst hxx
      obtain ⟨c0, c1, c2, c3, c4, c5, c6, c7, c8⟩ := hc1
      obtain ⟨e0, e1, e2, e3, e4, e5, e6, e7, e8⟩ := hc2
      simp only at c0 c1 c2 c3 c4 c5 c6 c7 c8 e0 e1 e2 e3 e4 e5 e6 e7 e8 hp1 hp2 hps
      have HP1 := hid hp1
      have HP2 := hid hp2
      have z1 := Nat.lt_of_lt_of_le hb1 HB.out.size
      have z2 := Nat.lt_of_lt_of_le hb2 HB.out.size
      have C0 := cell_all2 z1 c0
      have C1 := cell_all2 z1 c1
      have C2 := cell_all2 z1 c2
      have C3 := cell_all2 z1 c3
      have C4 := cell_all2 z1 c4
      have C5 := cell_all2 z1 c5
      have C6 := cell_all2 z1 c6
      have C7 := cell_all2 z1 c7
      have C8 := cell_all2 z1 c8
      have E0 := cell_all2 z2 e0
      have E1 := cell_all2 z2 e1
      have E2 := cell_all2 z2 e2
      have E3 := cell_all2 z2 e3
      have E4 := cell_all2 z2 e4
      have E5 := cell_all2 z2 e5
      have E6 := cell_all2 z2 e6
      have E7 := cell_all2 z2 e7
      have E8 := cell_all2 z2 e8
      have i1 : (0 : Int) ≤ (k : Int) := by omega
      have i2 : (k : Int) < (n : Int) := by omega
      have r1 := fun ddd os => Ret.regrown (rsameop_self kk i a bb cc dd pw ph pl qA rA qn qc rn rc (grow (redrawn wr ddd) os) (HP1.out.below (below_regrown wr ddd os)) (HP2.out.below (below_regrown wr ddd os)) (by omega))
      clear hr hq hp1 hp2 c0 c1 c2 c3 c4 c5 c6 c7 c8 e0 e1 e2 e3 e4 e5 e6 e7 e8 ha1 ha2
      go_upto_region 6 with fail
      refine wp_region_quiet_below (by kernel_rfl) (by kernel_rfl) ?_
      iterate 8 (quiet_step (fail))
      quiet_step (exact r1 _ _)
      iterate 1 (quiet_step (fail))
      (refine wpQuiet_nil ?_; intro _ hw'; obtain ⟨⟨dq, osq⟩, hw''⟩ := hw'; subst hw'')
      have hbQ := hid (bnext HB.out (below_regrown wr dq osq))
      clear C0 C1 C2 C3 C4 C5 C6 C7 C8 E0 E1 E2 E3 E4 E5 E6 E7 E8 r1
      generalize grow (redrawn wr dq) osq = W5 at *
      go_wp2_with fail
      go_roundw
      case rel => exact ⟨k + 1, by omega, by go_num, hbQ⟩
      case measure => simp [intOf]; omega
    · obtain rfl : k = n := by omega
      go_wp2_with fail
      go_ret
      exact ⟨rfl, HB.out⟩
end Fb
