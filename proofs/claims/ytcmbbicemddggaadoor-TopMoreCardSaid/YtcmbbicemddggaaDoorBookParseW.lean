/- book.Parse: it returns what the plain law of reading books says. Condition: the variable holds the names. -/
import Derived.Test.YtcmbbicemddggaaDoorBookRead
import Derived.Test.YtcmbbicemddggaaDoorBookCheck
import Derived.Deep.DrawnRows
set_option linter.unusedSimpArgs false
set_option linter.unusedVariables false
namespace Fb
open Go Go.Proofs Go.RowKit Go.Sort
attribute [local go_sem ↓] Go.wp_at_zero Go.wp_at_succ
set_option maxRecDepth 100000 in
set_option maxHeartbeats 4000000 in
theorem bookparse_any (S : Bs) (w : World) (hS : S.length ≤ 1000000) (hN : NamesAt 0 w) :
    Calls Tryd.prog 10 #[.string (strOf S)] w (RetOpsE (bookOf S) w) := by
  obtain ⟨i0, hi, hz0, hz1, hz2⟩ := info_parts info_op
  have HN := hid hN
  have hsz := strOf_size S
  clear hN
  by_cases h4 : 4000 < S.length
  · have hV := hid (bookOf_many h4)
    have i4 : (4000 : Int) < ((strOf S).size : Int) := by omega
    clear hsz h4
    go_enter Tryd.func10, Tryd.ntmps10
    go_wp2_with fail
    go_ret2
    have := retOpsE_bad (w := w) (w' := w) hV.out (Below.refl _ _)
    rw [errV_pos (by decide)] at this
    exact this
  have i4 : ¬ (4000 : Int) < ((strOf S).size : Int) := by omega
  have HBC := hid (fun hc => bookOf_chunks (s := S) h4 hc)
  have HBG := hid (fun hc => bookOf_go (s := S) h4 hc)
  have Hfine := hid (allL_fine S 120)
  have Hfew := hid (allL_few S 120)
  have hle := (allL_le S 120).1
  clear hsz
  go_enter Tryd.func10, Tryd.ntmps10
  go_wp2_with fail
  refine (all_any S 120 w hS).mono ?_
  rintro e w2 ⟨A2, c2, rfl, hch, hb2⟩
  obtain ⟨⟨cs, F⟩, hX⟩ : ∃ X, allL S 120 = X := ⟨_, rfl⟩
  rw [hX] at hch hle ⊢
  have HBC2 := HBC.out
  have HBG2 := HBG.out
  have Hf2 := Hfine.out
  have Hw2 := Hfew.out
  rw [hX] at HBC2 HBG2 Hf2 Hw2
  simp only at HBC2 HBG2 Hf2 Hw2 hch hle ⊢
  have HBc := hid HBC2
  have HBg := hid HBG2
  have Hfn := hid Hf2
  clear HBC HBG Hfine Hfew HBC2 HBG2 Hf2 hX i4
  by_cases hF : F = 0
  case neg =>
    have hV := hid (HBc.out hF)
    rw [errV_pos hF]
    have HE := hid (errV_pos hF)
    clear hF hch
    go_wp2_with fail
    go_ret2
    have := retOpsE_bad (w := w) (w' := w2) hV.out hb2
    rw [HE.out] at this
    exact this
  have hV := hid (HBg.out hF)
  rw [hF, errV_zero]
  clear hF HBc HBg
  have hcl : cs.length = cs.length := rfl
  obtain ⟨n, hn⟩ : ∃ n, cs.length = n := ⟨_, rfl⟩
  rw [hn] at hch Hw2 ⊢
  have HCH := hid hch
  have hn500 : n ≤ 500 := by omega
  have HB2 := hid hb2
  clear hcl hch hb2 Hw2
  go_wp2_with fail
  go_loopw [6, 25] (fun lv iv wr => ∃ (k : Nat) (rs : List (FAt FOp)), k ≤ n ∧ iv = .int .i64 k ∧ Hid (wr.ownsRow w2.heap.size 48 9 lv rs.length (rs.flatMap opCells)) ∧ Hid (OpsHeld wr lv rs) ∧ rs.length ≤ k ∧ Hid (bookOf S = readEnd (opsGo (cs.drop k) (datO rs))) ∧ Hid (Below w2.heap.size w2 wr)) (fun _ iv _ => n - (intOf iv).toNat)
  case atStart => exact ⟨0, [], by omega, rfl, hid (World.ownsRow_nil _ _ _ _), hid (OpsHeld.nil _ _), by simp, hV, hid (Below.refl _ _)⟩
  case round =>
    clear hV
    obtain ⟨k, rs, hk, rfl, HO, HH, hrl, HV, HB⟩ := hrel
    obtain ⟨lA, lc, rfl, hlA, hlc⟩ := own_slice HO.out
    have HlA := hid hlA
    clear hlA hlc
    by_cases hlt : k < n
    · obtain ⟨b, off, rfl, hb, hcc⟩ := Chunks.open_ HCH.out (by omega)
      obtain ⟨q0, q1⟩ := hcc k (by omega)
      have hfc := Hfn.out cs[k] (List.getElem_mem _)
      have hdk := HV.out
      rw [List.drop_eq_getElem_cons (show k < cs.length by omega)] at hdk
      obtain ⟨⟨N, D⟩, hc⟩ : ∃ c, cs[k] = c := ⟨_, rfl⟩
      rw [hc] at q0 q1 hfc hdk
      simp only at q0 q1 hfc
      have c0 := (HB.out.cell (p := ⟨b, off + k * 2, none⟩) hb).trans q0
      have c1 := (HB.out.cell (p := ⟨b, off + k * 2 + 1, none⟩) hb).trans q1
      have HD := hid hdk
      have i1 : (0 : Int) ≤ (k : Int) := by omega
      have i2 : (k : Int) < (n : Int) := by omega
      clear hc hdk HV q0 q1 hcc
      go_upto_region 10 with fail
      obtain ⟨W3, hW3⟩ : ∃ W3, W3 = wr.alloc (.cells #[.string (strOf N), .string (strOf D)] 37) := ⟨_, rfl⟩
      have hb3 : Below wr.heap.size wr W3 := by rw [hW3]; exact (Below.refl _ _).alloc (Nat.le_refl _) _
      have HC3 : Hid (W3.heap[wr.heap.size]? = some (.cells #[.string (strOf N), .string (strOf D)] 37)) := hid (by rw [hW3]; exact heap_alloc_new wr _)
      obtain ⟨gc, hgc⟩ : ∃ g, g = wr.heap.size := ⟨_, rfl⟩
      rw [← hgc] at HC3
      rw [← hW3, ← hgc]
      have HO3 := hid (own_keep HO.out hb3)
      have HH3 := hid (HH.out.below hb3)
      have HB3 := hid (bnext HB.out hb3)
      have HlA3 := hid (fun a ha => Nat.lt_of_lt_of_le (HlA.out a ha).2.1 hb3.size)
      clear hW3 hgc hb3 c0 c1 HO HH HB HlA
      have u0 := opblk_cell HC3.out 0 _ rfl
      have u1 := opblk_cell HC3.out 1 _ rfl
      have k0 : 0 < (strOf N).size := by rw [strOf_size]; omega
      have k1 : (0 : Int) < ((strOf N).size : Int) := by omega
      have b0 := byte_in (D := N) k0
      obtain ⟨x0, hx0⟩ : ∃ x, N.getD 0 0 = x := ⟨_, rfl⟩
      rw [hx0] at b0
      have Hx0 := hid hx0
      clear hx0
      by_cases hx : x0 = 88
      · have hx8 : x0.toNat = 88 := by rw [hx]; rfl
        have HN2 := hid (HD.out.trans (congrArg readEnd (opsGo_x (c := (N, D)) (by rw [← hx]; exact Hx0.out))))
        clear hx
        go_wp2_with fail
        go_roundw
        case rel => exact ⟨k + 1, rs, by omega, by go_num, HO3, HH3, by omega, HN2, HB3⟩
        case measure => simp [intOf]; omega
      · have hx8 : x0.toNat ≠ 88 := fun e => hx (by rw [← UInt8.toNat_inj]; exact e)
        have hxe : N.getD 0 0 ≠ 88 := by rw [Hx0.out]; exact hx
        have HXE := hid hxe
        clear hx hxe
        go_wp2_with fail
        refine (opparse_any N D W3 (by omega) (HN.out.below (bnext HB2.out HB3.out))).mono ?_
        rintro e w4 ⟨pA, pc, rfl, hpx, hnew, hb4⟩
        have hsm := opOf_sm N D
        have HBAD := hid (fun hh => HD.out.trans (congrArg readEnd (opsGo_bad (c := (N, D)) HXE.out hh)))
        have HOK := hid (fun hh => HD.out.trans (congrArg readEnd (opsGo_ok (c := (N, D)) HXE.out hh)))
        obtain ⟨⟨⟨xk, xi, xa, xb, xc, xd, ⟨xw, xh, xl⟩⟩, xf⟩, hX⟩ : ∃ X, opOf N D = X := ⟨_, rfl⟩
        have HBAD2 := HBAD.out
        have HOK2 := HOK.out
        simp only [hX] at HBAD2 HOK2 hsm hpx hnew ⊢
        have HBad := hid HBAD2
        have HOk := hid HOK2
        have HPX := hid hpx
        have HNew := hid hnew
        have HO4 := hid (own_keep HO3.out hb4)
        have HH4 := hid (HH3.out.below hb4)
        have HB4 := hid (bnext HB3.out hb4)
        have hz34 := hb4.size
        clear hX HBAD HOK HBAD2 HOK2 hpx hnew hb4 HD u0 u1 HC3 HO3 HH3 HB3 k0 k1 b0 hx8 Hx0 HXE
        go_upto_region 12 with fail
        obtain ⟨W5, hW5⟩ : ∃ W5, W5 = w4.alloc (.cells #[.int .i64 xk, .int .i64 xi, .int .i64 xa, .int .i64 xb, .int .i64 xc, .int .i64 xd, .int .i64 xw, .int .i64 xh, .slice pA xl.length pc] 48) := ⟨_, rfl⟩
        have hb5 : Below w4.heap.size w4 W5 := by rw [hW5]; exact (Below.refl _ _).alloc (Nat.le_refl _) _
        have HX5 : Hid (OpBoxAt w4.heap.size xk xi xa xb xc xd xw xh pA xl.length pc W5) := hid (by rw [hW5]; exact heap_alloc_new w4 _)
        obtain ⟨g, hg⟩ : ∃ g, g = w4.heap.size := ⟨_, rfl⟩
        rw [← hg] at HX5
        rw [← hW5, ← hg]
        have HO5 := hid (own_keep HO4.out hb5)
        have HH5 := hid (HH4.out.below hb5)
        have HB5 := hid (bnext HB4.out hb5)
        have HPX5 := hid (HPX.out.below hb5)
        clear hW5 hg hb5 HO4 HH4 HB4 HPX
        by_cases hxf : xf = 0
        case neg =>
          have hV := hid (HBad.out hxf)
          have HR := hid ((hV.out.trans (readEnd_bad hxf)))
          rw [errV_pos hxf]
          have HE := hid (errV_pos hxf)
          clear hxf hV
          go_wp2_with fail
          go_ret2
          have := retOpsE_bad (w := w) (w' := W5) HR.out (bnext HB2.out HB5.out)
          rw [HE.out] at this
          exact this
        have HN2 := hid (HOk.out hxf)
        rw [hxf, errV_zero]
        clear hxf HBad HOk
        obtain ⟨c0, c1, c2, c3, c4, c5, c6, c7, c8⟩ := OpBoxAt.cells HX5.out
        have hown5 := HO5.out
        go_wp2_with (at_builtin; refine wpList_append_own_at _ rfl _ _ 22 rfl w2.heap.size 48 i0 (.agg #[.int .i64 0, .int .i64 0, .int .i64 0, .int .i64 0, .int .i64 0, .int .i64 0, .int .i64 0, .int .i64 0, .slice none 0 0]) 9 88 Tryd.underlying22 hi hz0 hz1 hz2 rfl (by decide) _ _ _ rfl (hown5.alloc _) ⟨W5.heap.size, 0, none⟩ 1 1 (opCells ⟨⟨xk, xi, xa, xb, xc, xd, ⟨xw, xh, xl⟩⟩, pA, xl.length, pc⟩) rfl rfl ?c1 ?c2 ?c3 ?c4 ?c5 ?_)
        case c1 => exact new_cells W5 #[.int .i64 xk, .int .i64 xi, .int .i64 xa, .int .i64 xb, .int .i64 xc, .int .i64 xd, .int .i64 xw, .int .i64 xh, .slice pA xl.length pc] 48
        case c2 => intro u hu; simp [opCells] at hu; rcases hu with rfl | rfl | rfl | rfl | rfl | rfl | rfl | rfl | rfl <;> rfl
        case c3 => unfold maxLen; omega
        case c4 => omega
        case c5 => have := HB5.out.size; simp; omega
        intro v' w6 hown' hgrow _ hvo
        obtain ⟨R, hR⟩ : ∃ R : FAt FOp, R = ⟨⟨xk, xi, xa, xb, xc, xd, ⟨xw, xh, xl⟩⟩, pA, xl.length, pc⟩ := ⟨_, rfl⟩
        have HO6 : Hid (w6.ownsRow w2.heap.size 48 9 v' (rs ++ [R]).length ((rs ++ [R]).flatMap opCells)) := hid (by
          rw [hR, List.length_append, List.flatMap_append]
          simpa using hown')
        have hal : Below W5.heap.size W5 (W5.alloc (.cells #[.int .i64 xk, .int .i64 xi, .int .i64 xa, .int .i64 xb, .int .i64 xc, .int .i64 xd, .int .i64 xw, .int .i64 xh, .slice pA xl.length pc] 48)) := (Below.refl _ _).alloc (Nat.le_refl _) _
        have HH6 : Hid (OpsHeld w6 v' (rs ++ [R])) := hid (by
          refine (HH5.out.below hal).put (r := R) ?_ ?_ ?_ hgrow (by simpa using hvo)
          · rw [hR]; exact HPX5.out.below hal
          · rw [hR]; exact hsm.1
          · rw [hR]
            intro h0 a ha e
            have h1 := HNew.out a ha
            have h2 := HlA3.out
            cases lA with
            | none => simp [Value.ownBlock] at e
            | some la =>
              simp [Value.ownBlock] at e
              have := h2 la rfl
              omega)
        have HB6 := hid ((HB5.out.alloc HB5.out.size (.cells #[.int .i64 xk, .int .i64 xi, .int .i64 xa, .int .i64 xb, .int .i64 xc, .int .i64 xd, .int .i64 xw, .int .i64 xh, .slice pA xl.length pc] 48)).grown hgrow (by have := HB5.out.size; simp; omega) (fun g hg => (HO5.out.lt g hg).1))
        have HN3 : Hid (bookOf S = readEnd (opsGo (cs.drop (k + 1)) (datO (rs ++ [R])))) := hid (by rw [HN2.out, hR]; simp [datO])
        clear hown' hgrow hvo hal hown5 hR HO5 HH5 HB5 HPX5 HN2
        go_wp2_with fail
        go_roundw
        case rel => exact ⟨k + 1, rs ++ [R], by omega, by go_num, HO6, HH6, by simp; omega, HN3, HB6⟩
        case measure => simp [intOf]; omega
    · obtain rfl : k = n := by omega
      have hE := HV.out
      rw [List.drop_of_length_le (by omega), opsGo] at hE
      have HE := hid hE
      have hops := ops_own HO.out rfl HH.out
      have hs100 := fun r hr => (HH.out r hr).2.1
      have HOps := hid hops
      have HS1 := hid hs100
      clear hE HV hops hs100
      go_wp2_with fail
      refine (bookcheck_any lA rs.length lc rs wr HOps.out HS1.out (by omega)).mono ?_
      rintro e w7 ⟨rfl, hb7⟩
      have HB7 := hid (bnext HB2.out (bnext HB.out hb7))
      by_cases hbf : bookFault (datO rs) = 0
      · have HR := hid (HE.out.trans (readEnd_ok hbf))
        rw [hbf, errV_zero]
        clear hbf
        go_wp2_with fail
        go_ret2
        rw [HR.out]
        exact ⟨lA, rs.length, lc, rs, by rw [errV_zero]; rfl, HOps.out.below hb7, rfl, HS1.out, HB7.out⟩
      · have HR := hid (HE.out.trans (readEnd_book hbf))
        rw [errV_pos hbf]
        have HEr := hid (errV_pos hbf)
        clear hbf
        generalize bookFault (datO rs) = F at *
        go_wp2_with fail
        go_ret2
        have := retOpsE_bad (w := w) (w' := w7) HR.out HB7.out
        rw [HEr.out] at this
        exact this
end Fb
