/- The law TopBook: it returns true. Conditions: the variable holds the names (by the row), and the argument's shape. -/
import Derived.Test.YtcmbbicemddggaaDoorMachAll
import Derived.Test.YtcmbbicemddggaaDoorBookBytesW
import Derived.Test.YtcmbbicemddggaaDoorBookParseW
import Derived.Test.YtcmbbicemddggaaDoorBookBack
import Derived.Test.YtcmbbicemddggaaDoorBookCloseW
import Derived.Test.YtcmbbicemddggaaDoorOpen2
import Derived.Test.YtcmbbicemddggaaDoorRows
set_option linter.unusedSimpArgs false
set_option linter.unusedVariables false
namespace Fb
open Go Go.Proofs Go.RowKit Go.Sort Go.Maps
attribute [local go_sem ↓] Go.wp_at_zero Go.wp_at_succ
/-- the row's condition: the variable holds the names -/
theorem names_laid {W : World} (h : laidMetH Tryd.prog Go.Proofs.YtcmbbicemddggaaDoor.Rows.topBookRow.laid W) : NamesAt 0 W := by
  rw [MakeChecks.laidMetH_plain _ _ _ (by kernel_rfl)] at h
  obtain ⟨ps, ⟨g0, t0, cs0, f0, p0, q0, hg0, ht0, hv0, hd0, -⟩, -, -⟩ := h
  obtain rfl := Option.some.inj ((show Tryd.prog.globalNamed "flickerbook/op.names" = some 0 by kernel_rfl).symm.trans hg0)
  obtain rfl := Option.some.inj ((show (Tryd.prog.globals[0]?).map (·.type) = some 86 by kernel_rfl).symm.trans ht0)
  exact namesAt_of (fun _ => rfl) hg0 Tryd.underlying86 Tryd.underlying9 (by kernel_rfl) hv0 hd0
theorem number_iface (f : Nat) (h0 : f ≠ 0) (w : World) (h : f ≤ 100) : Calls Tryd.prog 8 #[.iface 63 (.int .i64 (f : Int))] w (Ret (.int .i64 (f : Int)) w) := by
  have := number_any f w h
  rw [errV_pos h0] at this
  exact this
set_option maxRecDepth 100000 in
set_option maxHeartbeats 8000000 in
theorem topBook_walk (A : Option Addr) (n c : Nat) (rs : List (FAt FOp)) (w : World) (hl : Ops w A n rs) (hn : n ≤ maxLen) (hN : NamesAt 0 w) :
    Calls Tryd.prog 3 #[.slice A n c] w (Ret (.bool true) w) := by
  have HL := hid hl
  have HN := hid hN
  have hlen := hl.1
  clear hl hN
  go_enter Tryd.func3, Tryd.ntmps3
  go_wp2_with fail
  refine (mworks_any w).mono ?_
  rintro e w1 ⟨rfl, hb1⟩
  go_wp2_with fail
  refine (lightops_any A n c rs 70 w1 (HL.out.below hb1) (by omega) hn).mono ?_
  rintro e w2 ⟨rfl, hb2⟩
  have hB2 := bnext hb1 hb2
  clear hb2 hb1
  cases hC : (decide (n ≤ 70) && lightOB rs)
  case false => (go_wp2_with fail; go_ret; exact ⟨rfl, hB2⟩)
  simp only [Bool.and_eq_true, decide_eq_true_eq] at hC
  obtain ⟨hn70, hli⟩ := hC
  have HS := hid (light_small hli)
  clear hli
  go_wp2_with fail
  refine (bookbytes_any A n c rs w2 (HL.out.below hB2) HS.out (by omega) (HN.out.below hB2)).mono ?_
  rintro e w3 ⟨rfl, hb3⟩
  have hB3 := bnext hB2 hb3
  clear hb3 hB2
  by_cases hf : bookFault (datO rs) = 0
  case neg =>
    rw [bookBV_bad hf]
    have hle := bookFault_le (datO rs)
    have C := hid (fun W (hw : Below w.heap.size w W) => bookcheck_any A n c rs W (HL.out.below hw) HS.out (by omega))
    obtain ⟨F, hF⟩ : ∃ F, bookFault (datO rs) = F := ⟨_, rfl⟩
    rw [hF] at C hf hle ⊢
    rw [errV_pos hf] at C
    clear hF
    go_wp2_with fail
    refine (C.out w3 hB3).mono ?_
    rintro e w4 ⟨rfl, hb4⟩
    have hB4 := bnext hB3 hb4
    go_wp2_with fail
    refine (number_iface F hf w4 (by omega)).mono ?_
    rintro e w5 ⟨rfl, hb5⟩
    have hB5 := bnext hB4 hb5
    go_wp2_with fail
    refine (number_iface F hf w5 (by omega)).mono ?_
    rintro e w6 ⟨rfl, hb6⟩
    go_wp2_with fail
    go_ret
    exact ⟨rfl, bnext hB5 hb6⟩
  have hbf := book_fine hf
  have hS6 := toldB_len (l := datO rs) hbf.ops _ (Nat.le_refl _)
  have h60 := hbf.few
  have HBK := hid (book_back hbf)
  have HBL := hid (book_long (l := datO rs))
  rw [bookBV_ok hf]
  obtain ⟨S, hS⟩ : ∃ S, toldB (datO rs) (datO rs).length = S := ⟨_, rfl⟩
  rw [hS] at hS6 HBK HBL ⊢
  have hsz := strOf_size S
  have CP := hid (bookparse_any S w3 (by omega) (HN.out.below hB3))
  clear hS hbf hf h60
  go_wp2_with fail
  refine CP.out.mono ?_
  rintro e w4 ⟨A4, n4, c4, rs4, rfl, ho4, hd4, hs4, hb4⟩
  have hB4 := bnext hB3 hb4
  by_cases hlong : 4000 < S.length
  · have i5 : (4000 : Int) < ((strOf S).size : Int) := by omega
    rw [HBL.out hlong]
    clear hsz hlong hd4 ho4 CP HBK HBL
    simp only
    go_wp2_with fail
    refine (number_any 2 w4 (by omega)).mono ?_
    rintro e w5 ⟨rfl, hb5⟩
    go_wp2_with fail
    go_ret
    exact ⟨rfl, bnext hB4 hb5⟩
  · have i5 : ¬ (4000 : Int) < ((strOf S).size : Int) := by omega
    rw [HBK.out (by omega)] at hd4 ⊢
    simp only at hd4
    have hn4 : n4 ≤ 1000 := by
      have h1 := ho4.1
      have h2 := congrArg List.length hd4
      rw [datO_len, datO_len] at h2
      omega
    have CS := hid (rsameops_self A4 A n4 n c4 c rs4 rs w4 ho4 (HL.out.below hB4) hd4 hs4 hn4)
    clear hsz hlong hd4 ho4 hs4 CP HBK HBL hS6
    simp only
    rw [show errV 0 = .nilIface from rfl]
    go_wp2_with fail
    refine CS.out.mono ?_
    rintro e w5 ⟨rfl, hb5⟩
    go_wp2_with fail
    go_ret
    exact ⟨rfl, bnext hB4 hb5⟩
theorem topBook_row (w : World) (r : FAt (List (FAt FOp))) (h : Ops w r.A r.n r.x ∧ r.n ≤ r.c ∧ r.c ≤ maxLen ∧ ∀ q ∈ r.x, OpOk w q) (hN : NamesAt 0 w) :
    Calls Tryd.prog 3 #[.slice r.A r.n r.c] w (Ret (.bool true) w) :=
  topBook_walk r.A r.n r.c r.x w h.1 (Nat.le_trans h.2.1 h.2.2.1) hN
end Fb
