/- The law BookSays: it returns true. Condition: the two variables hold the names (by the row), and the arguments' shape. -/
import Derived.Test.YtlhbdaiocolfeaaDoorBookBytesW
import Derived.Test.YtlhbdaiocolfeaaDoorRBookOf
import Derived.Test.YtlhbdaiocolfeaaDoorBookCloseW
import Derived.Test.YtlhbdaiocolfeaaDoorSameWalk
import Derived.Test.YtlhbdaiocolfeaaDoorOpen2
import Derived.Test.YtlhbdaiocolfeaaDoorRows
namespace Fb
open Go Go.Proofs Go.RowKit Go.Sort Go.Maps
attribute [local go_sem ↓] Go.wp_at_zero Go.wp_at_succ
/-- the row's condition: the variables hold the names -/
theorem names_book {W : World} (h : laidMetH Tryd.prog Go.Proofs.YtlhbdaiocolfeaaDoor.Rows.bookSaysRow.laid W) : NamesAt 0 W ∧ NamesAt 1 W := by
  rw [MakeChecks.laidMetH_plain _ _ _ (by kernel_rfl)] at h
  obtain ⟨ps, ⟨g0, t0, cs0, f0, p0, q0, hg0, ht0, hv0, hd0, ⟨g1, t1, cs1, f1, p1, q1, hg1, ht1, hv1, hd1, -⟩, -⟩, -⟩ := h
  obtain rfl := Option.some.inj ((show Tryd.prog.globalNamed "flickerbook/flickerbookref.names" = some 1 by kernel_rfl).symm.trans hg0)
  obtain rfl := Option.some.inj ((show (Tryd.prog.globals[1]?).map (·.type) = some 72 by kernel_rfl).symm.trans ht0)
  obtain rfl := Option.some.inj ((show Tryd.prog.globalNamed "flickerbook/op.names" = some 0 by kernel_rfl).symm.trans hg1)
  obtain rfl := Option.some.inj ((show (Tryd.prog.globals[0]?).map (·.type) = some 72 by kernel_rfl).symm.trans ht1)
  exact ⟨namesAt_of (fun _ => rfl) hg1 Tryd.underlying72 Tryd.underlying9 (by kernel_rfl) hv1 hd1, namesAt_of (fun _ => rfl) hg0 Tryd.underlying72 Tryd.underlying9 (by kernel_rfl) hv0 hd0⟩
def l0 : List FOp := [⟨1, 0, 2, 1, 0, 0, ⟨0, 0, []⟩⟩, ⟨16, 0, 0, 0, 0, 0, ⟨0, 0, []⟩⟩]
theorem l0_fine : bookFault l0 = 0 := by decide
theorem l0_read : (bookOf (toldB l0 2)).2 = 0 ∧ (bookOf (toldB l0 2)).1.length = 2 ∧ (opAt (bookOf (toldB l0 2)).1 0).a = 2 := by decide +kernel
theorem l0_len : (toldB l0 2).length ≤ 1000 := by decide +kernel
theorem l0_bytes : bookBV l0 = .tuple #[.string (strOf (toldB l0 2)), .nilIface] := bookBV_ok l0_fine
set_option maxRecDepth 100000 in
set_option maxHeartbeats 2000000 in
theorem books_any (w : World) (hN : NamesAt 0 w) : Calls Tryd.prog 16 #[] w (Ret (.bool true) w) := by
  have HN := hid hN
  clear hN
  go_enter Tryd.func16, Tryd.ntmps16
  go_wp2_with fail
  obtain ⟨W1, hW1⟩ : ∃ W1, W1 = w.alloc (.cells #[.int .i64 1, .int .i64 0, .int .i64 2, .int .i64 1, .int .i64 0, .int .i64 0, .int .i64 0, .int .i64 0, .slice none 0 0, .int .i64 16, .int .i64 0, .int .i64 0, .int .i64 0, .int .i64 0, .int .i64 0, .int .i64 0, .int .i64 0, .slice none 0 0] 26) := ⟨_, rfl⟩
  have hB1 : Below w.heap.size w W1 := by rw [hW1]; exact (Below.refl _ _).alloc (Nat.le_refl _) _
  have hops : Ops W1 (some ⟨w.heap.size, 0, none⟩) 2 [⟨⟨1, 0, 2, 1, 0, 0, ⟨0, 0, []⟩⟩, none, 0, 0⟩, ⟨⟨16, 0, 0, 0, 0, 0, ⟨0, 0, []⟩⟩, none, 0, 0⟩] := by
    refine ⟨rfl, by rw [hW1]; exact row_new w _ 26 2 9 rfl, fun r hr => ?_⟩
    simp at hr
    rcases hr with rfl | rfl <;> exact pixs_none _ _
  rw [← hW1]
  clear hW1
  refine (bookbytes_any _ 2 2 _ W1 hops (by intro r hr; simp at hr; rcases hr with rfl | rfl <;> simp) (by omega) (HN.out.below hB1)).mono ?_
  rintro e w2 ⟨rfl, hb2⟩
  have hB2 := bnext hB1 hb2
  rw [show bookBV (datO [⟨⟨1, 0, 2, 1, 0, 0, ⟨0, 0, []⟩⟩, none, 0, 0⟩, ⟨⟨16, 0, 0, 0, 0, 0, ⟨0, 0, []⟩⟩, none, 0, 0⟩]) = .tuple #[.string (strOf (toldB l0 2)), .nilIface] from l0_bytes]
  have hrd := l0_read
  have hl0 := l0_len
  have HL := hid hrd
  obtain ⟨S0, hS0⟩ : ∃ S, toldB l0 2 = S := ⟨_, rfl⟩
  rw [hS0] at HL hl0 ⊢
  clear hrd hS0 hops hb2 hB1
  go_wp2_with fail
  refine (bookparse_any S0 w2 (by omega) (HN.out.below hB2)).mono ?_
  rintro e w3 ⟨A, n, c, rs, rfl, hO, hD, -, hb3⟩
  have hB3 := bnext hB2 hb3
  obtain ⟨h1, h2, h3⟩ := HL.out
  rw [← hD] at h2 h3
  rw [h1, errV_zero]
  rw [datO_len, hO.1] at h2
  subst h2
  obtain ⟨b, off, rfl, hb, hat⟩ := Ops.open_ hO (by omega)
  have hc := (hat 0 (by rw [hO.1]; omega)).2.2.1
  have hk := datO_at (rs := rs) (k := 0) (by rw [hO.1]; omega)
  rw [← hk, h3] at hc
  simp only [Nat.zero_mul, Nat.add_zero] at hc
  have HC := hid hc
  have hbz := hb
  clear h1 h3 hD hO hat hk hc hb3 hB2
  have s0 : sameB 0 0 = true := rfl
  go_wp2_with fail
  refine (same_any 0 0 w3 (by omega)).mono ?_
  rintro e w4 ⟨rfl, hb4⟩
  rw [s0]
  have hB4 := bnext hB3 hb4
  have HC4 := hid ((hb4.cell (p := ⟨b, off + 2, none⟩) hbz).trans HC.out)
  have hbz4 := Nat.lt_of_lt_of_le hbz hb4.size
  clear hb4 hB3 HC hb hbz
  go_wp2_with fail
  refine (same_any 0 0 w4 (by omega)).mono ?_
  rintro e w5 ⟨rfl, hb5⟩
  rw [s0]
  have hB5 := bnext hB4 hb5
  have hc5 := (hb5.cell (p := ⟨b, off + 2, none⟩) hbz4).trans HC4.out
  clear hb5 hB4 HC4 hbz4 s0
  go_wp2_with fail
  go_ret
  exact ⟨rfl, hB5⟩
theorem opsGo_le : ∀ (cs : List (Bs × Bs)) (acc : List FOp), (opsGo cs acc).2 ≤ 100
  | [], acc => by simp [opsGo]
  | c :: r, acc => by
    have h := (opOf_sm c.1 c.2).2
    rw [opsGo]
    split
    · exact opsGo_le r acc
    · split
      · exact h
      · exact opsGo_le r _
theorem bookOf_le (S : Bs) : (bookOf S).2 ≤ 100 := by
  have h1 := (allL_le S 120).1
  have h2 := opsGo_le (allL S 120).1 []
  have h3 := bookFault_le (opsGo (allL S 120).1 []).1
  unfold bookOf readEnd
  split
  · show 2 ≤ 100; omega
  · split
    · show (allL S 120).2 ≤ 100; omega
    · split
      · exact h2
      · split
        · show bookFault _ ≤ 100; omega
        · show 0 ≤ 100; omega
theorem bookOf_few (S : Bs) : (bookOf S).1.length ≤ 60 := by
  unfold bookOf readEnd
  split
  · exact Nat.zero_le _
  · split
    · exact Nat.zero_le _
    · split
      · exact Nat.zero_le _
      · split
        · exact Nat.zero_le _
        · rename_i h
          exact (book_fine (by simpa using h)).few
theorem ownsMap_below {w w' : World} {P : Program} {k : TypeId} {R : Value → Option (DataW Unit × List MemPlace)} {b n : Nat} {D : DataW Unit} (h : w.ownsMap P k R b n D) (hb : Below w.heap.size w w') : w'.ownsMap P k R b n D := by
  have hlt := h.lt
  obtain ⟨es, clock, hh, F, hs, hD⟩ := h
  exact ⟨es, clock, by rw [hb.block b hlt]; exact hh, F, hs, hD⟩
theorem zero_int (w : World) : (zeroValue 3).run Tryd.prog w = .ok (.int .i64 0) w := by kernel_rfl
set_option maxRecDepth 100000 in
/-- what a look-up in the map gives -/
theorem look_at {w : World} {b n : Nat} {l : List FOp} (hf : BookFine l) (h : w.ownsMap Tryd.prog 3 (plainElem (H := Unit) Tryd.prog 3) b n (closeD l l.length)) {i : Nat} (hi : i < l.length) (hk : (opAt l i).kind = 12) :
    (Instr.lookup 59 (.map (some b)) (.int .i64 i) false).run Tryd.prog w = .ok (.int .i64 (endP l i)) w := by
  have h60 := hf.few
  obtain ⟨c, h1, h2, -⟩ := h.lookup_int law_int Tryd.underlying59 Tryd.underlying3 (zero_int w) (keyOf_int_mk Tryd.underlying3 (WalkArith.wf_i64 (n := (i : Int)) (by omega)))
  rw [close_at hf hi hk] at h2
  injection h2 with h2
  injection h2 with _ h2
  subst h2
  exact h1
theorem cntK_at (l : List FOp) (k : Int) (p : Nat) : cntK l k (p + 1) = cntK l k p + if (opAt l p).kind = k then 1 else 0 := rfl
set_option maxRecDepth 100000 in
set_option maxHeartbeats 4000000 in
theorem bookSays_walk (A : Option Addr) (n c : Nat) (rs : List (FAt FOp)) (S : Bs) (w : World) (h : Ops w A n rs) (hn : n ≤ maxLen) (hN : NamesAt 0 w) (hM : NamesAt 1 w) :
    Calls Tryd.prog 4 #[.slice A n c, .string (strOf S)] w (Ret (.bool true) w) := by
  have H := hid h
  have HN := hid hN
  have HM := hid hM
  clear h hN hM
  go_enter Tryd.func4, Tryd.ntmps4
  go_wp2_with fail
  refine (books_any w HN.out).mono ?_
  rintro e w1 ⟨rfl, hB1⟩
  go_wp2_with fail
  refine (lightops_any A n c rs 70 w1 (H.out.below hB1) (by omega) hn).mono ?_
  rintro e w2 ⟨rfl, hb2⟩
  have hB2 := bnext hB1 hb2
  clear hb2 hB1
  cases hC : (decide (n ≤ 70) && lightOB rs)
  case false => (go_wp2_with fail; go_ret; exact ⟨rfl, hB2⟩)
  simp only [Bool.and_eq_true, decide_eq_true_eq] at hC
  obtain ⟨hn70, hli⟩ := hC
  have HS := hid (show ∀ r ∈ rs, r.n ≤ 100 from fun r hr => by
    unfold lightOB at hli
    have := List.all_eq_true.1 hli r hr
    simp at this
    omega)
  clear hli
  have hsz := strOf_size S
  by_cases h5 : 5000 < S.length
  · have i5 : (5000 : Int) < ((strOf S).size : Int) := by omega
    clear hsz h5
    go_wp2_with fail
    go_ret
    exact ⟨rfl, hB2⟩
  have i5 : ¬ (5000 : Int) < ((strOf S).size : Int) := by omega
  clear hsz
  go_wp2_with fail
  clear i5
  refine (rbookfault_any A n c rs w2 (H.out.below hB2) HS.out (by omega)).mono ?_
  rintro e w3 ⟨rfl, hb3⟩
  have hB3 := bnext hB2 hb3
  clear hb3 hB2
  go_wp2_with fail
  refine (bookbytes_any A n c rs w3 (H.out.below hB3) HS.out (by omega) (HN.out.below hB3)).mono ?_
  rintro e w4 ⟨rfl, hb4⟩
  have hB4 := bnext hB3 hb4
  clear hb4 hB3
  have C5 := hid (fun W (hw : Below w.heap.size w W) => rbookbytes_any A n c rs W (H.out.below hw) HS.out (by omega) (HM.out.below hw))
  have C9 := hid (fun W (hw : Below w.heap.size w W) => bookcheck_any A n c rs W (H.out.below hw) HS.out (by omega))
  unfold bookBN at C5
  unfold bookBV
  have hFle := bookFault_le (datO rs)
  obtain ⟨F, hF⟩ : ∃ F, bookFault (datO rs) = F := ⟨_, rfl⟩
  rw [hF] at hFle ⊢
  simp only [hF] at C5 C9
  have HF := hid hF
  clear hF
  obtain ⟨X, hX⟩ : ∃ X, strOf (bookB (datO rs)) = X := ⟨_, rfl⟩
  rw [hX]
  simp only [hX] at C5
  clear hX
  go_wp2_with fail
  refine (C5.out w4 hB4).mono ?_
  rintro e w5 ⟨rfl, hb5⟩
  have hB5 := bnext hB4 hb5
  clear hb5 hB4 C5
  go_wp2_with fail
  refine (bookparse_any S w5 (by omega) (HN.out.below hB5)).mono ?_
  rintro e w6 ⟨xA, xn, xc, xs, rfl, hxo, hxd, hxs, hb6⟩
  have hB6 := bnext hB5 hb6
  have HX := hid hxo
  clear hb6 hB5 hxo
  have CR := hid (fun W (hw : Below w.heap.size w W) => rbookof_any S W (by omega) (HM.out.below hw))
  unfold RetOpsN at CR
  have hble := bookOf_le S
  have hbfw := bookOf_few S
  obtain ⟨⟨xl, xf⟩, hbo⟩ : ∃ b, bookOf S = b := ⟨_, rfl⟩
  rw [hbo] at hble hbfw hxd ⊢
  simp only [hbo] at CR
  simp only at hble hbfw hxd ⊢
  have HXd := hid hxd
  have HXs := hid hxs
  clear hbo hxd hxs
  go_wp2_with fail
  refine (CR.out w6 hB6).mono ?_
  rintro e w7 ⟨yA, yn, yc, ys, rfl, hyo, hyd, -, hb7⟩
  have hB7 := bnext hB6 hb7
  have HX7 := hid (HX.out.below hb7)
  have HY := hid hyo
  have HYd := hid hyd
  clear hb7 hB6 hyo hyd CR HX
  have hxn : xn ≤ 1000 := by
    have e1 := HX7.out.1
    have e2 := datO_len xs
    rw [HXd.out] at e2
    omega
  go_wp2_with fail
  refine (C9.out w7 hB7).mono ?_
  rintro e w8 ⟨rfl, hb8⟩
  have hB8 := bnext hB7 hb8
  have HX8 := hid (HX7.out.below hb8)
  have HY8 := hid (HY.out.below hb8)
  clear hb8 hB7 C9 HX7 HY
  go_wp2_with fail
  refine (same_any F (F : Int) w8 (by omega)).mono ?_
  rintro e w9 ⟨rfl, hb9⟩
  rw [sameB_self]
  have hB9 := bnext hB8 hb9
  have HX9 := hid (HX8.out.below hb9)
  have HY9 := hid (HY8.out.below hb9)
  clear hb9 hB8 HX8 HY8
  go_wp2_with fail
  refine (same_any F (F : Int) w9 (by omega)).mono ?_
  rintro e w10 ⟨rfl, hb10⟩
  rw [sameB_self]
  have hB10 := bnext hB9 hb10
  have HX10 := hid (HX9.out.below hb10)
  have HY10 := hid (HY9.out.below hb10)
  clear hb10 hB9 HX9 HY9
  go_wp2_with fail
  refine (rsameops_self xA yA xn yn xc yc xs ys w10 HX10.out HY10.out (HXd.out.trans HYd.out.symm) HXs.out hxn).mono ?_
  rintro e w11 ⟨rfl, hb11⟩
  have hB11 := bnext hB10 hb11
  clear hb11 hB10 HX10 HY10
  go_wp2_with fail
  refine (same_any xf (xf : Int) w11 (by omega)).mono ?_
  rintro e w12 ⟨rfl, hb12⟩
  rw [sameB_self]
  have hB12 := bnext hB11 hb12
  clear hb12 hB11
  by_cases hF0 : F = 0
  case neg =>
    have hpos : (0 : Int) < (F : Int) := by omega
    clear hF0
    go_wp2_with fail
    go_ret
    exact ⟨rfl, hB12⟩
  subst hF0
  have HFine := hid (book_fine HF.out)
  go_wp2_with fail
  refine (bookclose_any A n c rs w12 (H.out.below hB12) HFine.out).mono ?_
  rintro e w13 ⟨mb, mn, rfl, hmo, -, -, hb13⟩
  have hB13 := bnext hB12 hb13
  have HMo := hid hmo
  have hdl := datO_len rs
  have hlen := H.out.1
  rw [hlen] at hdl
  have HDl := hid hdl
  have hn2 := HFine.out.two
  rw [hdl] at hn2
  clear hb13 hB12 hmo hdl
  go_wp2_with fail
  go_loopw [16, 17] (fun nv iv wr => ∃ k : Nat, k ≤ n ∧ iv = .int .i64 k ∧ nv = .int .i64 (cntK (datO rs) 12 k) ∧ Hid (Below w13.heap.size w13 wr)) (fun _ iv _ => n - (intOf iv).toNat)
  case atStart => exact ⟨0, by omega, rfl, rfl, hid (Below.refl _ _)⟩
  case round =>
    obtain ⟨k, hk, rfl, rfl, HB⟩ := hrel
    by_cases hlt : k < n
    · have hkr : k < rs.length := by omega
      obtain ⟨b, off, rfl, hb, hat⟩ := Ops.open_ (H.out.below hB13) (by omega)
      have hc := ((HB.out.cell (p := ⟨b, off + k * 9, none⟩) hb).trans (hat k hkr).1)
      have hak := datO_at hkr
      have hst := cntK_at (datO rs) 12 k
      have hcl := cntK_le (datO rs) 12 k
      obtain ⟨kk, hkk⟩ : ∃ kk, (opAt (datO rs) k).kind = kk := ⟨_, rfl⟩
      have hck : rs[k].x.kind = kk := by rw [← hak]; exact hkk
      rw [hck] at hc
      rw [hkk] at hst
      have HSt := hid hst
      have HKk := hid hkk
      have i1 : (0 : Int) ≤ (k : Int) := by omega
      have i2 : (k : Int) < (n : Int) := by omega
      clear hat hak hst hck hkk
      by_cases hw : kk = 12
      · subst hw
        have HC2 := hid (show cntK (datO rs) 12 (k + 1) = cntK (datO rs) 12 k + 1 from HSt.out)
        generalize cntK (datO rs) 12 k = q at *
        have hlk := fun dd os => look_at HFine.out (ownsMap_below HMo.out (bnext HB.out (below_regrown wr dd os))) (i := k) (by rw [HDl.out]; omega) HKk.out
        have r1 := fun dd os => Ret.regrown (rendof_any _ n c rs (grow (redrawn wr dd) os) (H.out.below (bnext hB13 (bnext HB.out (below_regrown wr dd os)))) (by omega) k hlt HKk.out)
        go_upto_region 20 with fail
        refine wp_region_quiet_below (by kernel_rfl) (by kernel_rfl) ?_
        iterate 5 (quiet_step (fail))
        quiet_step (exact r1 _ _)
        iterate 1 (quiet_step (fail))
        (refine wpQuiet_nil ?_; intro _ hw'; obtain ⟨⟨dq, osq⟩, hw''⟩ := hw'; subst hw'')
        have hbQ := hid (bnext HB.out (below_regrown wr dq osq))
        clear hlk r1
        generalize grow (redrawn wr dq) osq = W5 at *
        go_wp2_with fail
        go_roundw
        case rel => exact ⟨k + 1, by omega, by go_num, by rw [HC2.out]; go_num, hbQ⟩
        case measure => simp [intOf]; omega
      · have HC2 := hid (show cntK (datO rs) 12 (k + 1) = cntK (datO rs) 12 k by rw [HSt.out, if_neg hw]; rfl)
        go_wp2_with fail
        go_roundw
        case rel => exact ⟨k + 1, by omega, by go_num, by rw [HC2.out], HB⟩
        case measure => simp [intOf]; omega
    · obtain rfl : k = n := by omega
      have hcc := close_count HFine.out
      have HMr := hid (ownsMap_below HMo.out HB.out)
      rw [HDl.out] at hcc
      have HCc := hid hcc
      clear hcc
      have hlm := HMr.out.len Tryd.underlying59 3
      rw [HDl.out, HCc.out] at hlm
      go_wp2_with fail
      go_ret
      exact ⟨rfl, bnext hB13 HB.out⟩
theorem bookSays_row (w : World) (r : FAt (List (FAt FOp))) (h : Ops w r.A r.n r.x ∧ r.n ≤ r.c ∧ r.c ≤ maxLen ∧ ∀ q ∈ r.x, OpOk w q) (s : ByteArray) (_hs : s.size ≤ maxLen) (hN : NamesAt 0 w ∧ NamesAt 1 w) :
    Calls Tryd.prog 4 #[.slice r.A r.n r.c, .string s] w (Ret (.bool true) w) := by
  have h2 := bookSays_walk r.A r.n r.c r.x s.data.toList w h.1 (Nat.le_trans h.2.1 h.2.2.1) hN.1 hN.2
  have e : strOf s.data.toList = s := by unfold strOf; simp
  rw [e] at h2
  exact h2
end Fb
