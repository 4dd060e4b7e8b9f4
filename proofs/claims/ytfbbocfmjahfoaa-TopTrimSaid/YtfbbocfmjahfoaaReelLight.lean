/- LightPicture, LightFrames, the reference's SameFrames. Conditions: bounds on lengths. -/
import Derived.Test.YtfbbocfmjahfoaaReelWalk2
namespace Fb
open Go Go.Proofs Go.RowKit Go.Sort
theorem cell_all {w : World} {p : Addr} {v : Value} (hb : p.block < w.heap.size) (h : w.cell? p = some v) (d : Nat) (os : Array Go.Obj) : (grow (redrawn w d) os).cell? p = some v :=
  ((below_regrown w d os).cell hb).trans h
theorem Pixs.all {w : World} {A : Option Addr} {n : Nat} {l : List Px} (h : Pixs w A n l) (d : Nat) (os : Array Go.Obj) : Pixs (grow (redrawn w d) os) A n l := h.below (below_regrown w d os)
set_option maxRecDepth 100000 in
set_option maxHeartbeats 400000 in
theorem lightpic_any (r : FAt FPic) (w : World) :
    Calls Try.prog 43 #[.agg #[.int .i64 r.x.w, .int .i64 r.x.h, .slice r.A r.n r.c]] w (Ret (.bool (decide (r.n ≤ 80))) w) := by
  go_enter Try.func43, Try.ntmps43
  go_wp2
  go_ret
  refine ⟨ret_bool ?_, (Below.refl _ _).alloc (Nat.le_refl _) _⟩
  rw [Bool.eq_iff_iff]; simp; try omega
def lightF (r : FAt FFrame) : Bool := decide (0 ≤ r.x.delay ∧ r.x.delay ≤ 99) && decide (r.n ≤ 80)
def lightB (rs : List (FAt FFrame)) : Bool := decide (rs.length ≤ 50) && rs.all lightF
theorem all_stepG {α : Type} {f : α → Bool} {l : List α} {k : Nat} (h : k < l.length) (ha : (l.take k).all f = true) (hc : f l[k] = true) : (l.take (k + 1)).all f = true := by
  rw [List.take_succ_eq_append_getElem h, List.all_append]; simp [ha, hc]
theorem all_badG {α : Type} {f : α → Bool} {l : List α} {k : Nat} (h : k < l.length) (hc : f l[k] = false) : l.all f = false := by
  rw [List.all_eq_false]; exact ⟨l[k], List.getElem_mem h, by simp [hc]⟩
theorem lightF_low {r : FAt FFrame} (h : r.x.delay < 0) : lightF r = false := by unfold lightF; simp; omega
theorem lightF_high {r : FAt FFrame} (h : 99 < r.x.delay) : lightF r = false := by unfold lightF; simp; omega
theorem lightF_much {r : FAt FFrame} (h : 80 < r.n) : lightF r = false := by unfold lightF; simp; omega
theorem lightF_ok {r : FAt FFrame} (h : 0 ≤ r.x.delay) (h1 : r.x.delay ≤ 99) (h2 : r.n ≤ 80) : lightF r = true := by unfold lightF; simp; omega
set_option maxRecDepth 100000 in
set_option maxHeartbeats 800000 in
theorem lightframes_any (A : Option Addr) (n c : Nat) (rs : List (FAt FFrame)) (w : World) (hl : Frames w A n rs) (hn : n ≤ maxLen) :
    Calls Try.prog 21 #[.slice A n c] w (Ret (.bool (lightB rs)) w) := by
  unfold maxLen at hn
  have Hl := hid hl.1
  by_cases h50 : 50 < n
  · have hr := hid (show lightB rs = false by unfold lightB; rw [Hl.out]; simp; omega)
    have h50' : (50 : Int) < (n : Int) := by omega
    clear hl h50
    go_enter Try.func21, Try.ntmps21
    go_wp2
    go_ret
    exact ⟨ret_bool hr.out.symm, Below.refl _ _⟩
  have h50' : ¬ (50 : Int) < (n : Int) := by omega
  by_cases h0 : n = 0
  · subst h0
    have e1 : rs = [] := List.eq_nil_of_length_eq_zero Hl.out
    have hr := hid (show lightB rs = true by rw [e1]; rfl)
    clear hl e1 h50
    go_enter Try.func21, Try.ntmps21
    go_wp2
    go_loop [3] (fun i => i = .int .i64 0) (fun _ => 0)
    case atStart => rfl
    case round =>
      subst hrel
      go_wp2
      go_ret
      exact ⟨ret_bool hr.out.symm, Below.refl _ _⟩
  · obtain ⟨b, o, rfl, hb, hc⟩ := hl.open_ (by omega)
    have Hc := hid hc
    clear hl hc h50
    go_enter Try.func21, Try.ntmps21
    go_wp2
    go_loopw [3] (fun i wr => ∃ k : Nat, k ≤ n ∧ i = .int .i64 k ∧ (rs.take k).all lightF = true ∧ Below w.heap.size w wr) (fun i _ => n - (intOf i).toNat)
    case atStart => exact ⟨0, by omega, rfl, rfl, Below.refl _ _⟩
    case round =>
      obtain ⟨k, hk, rfl, ha, hbel⟩ := hrel
      have Ha := hid ha
      clear ha
      by_cases hlt : k < n
      · have k1 : k < rs.length := by rw [Hl.out]; exact hlt
        obtain ⟨c0, c1, c2, c3⟩ := Hc.out k k1
        have d0 := (hbel.cell (p := ⟨b, o + k * 4, none⟩) hb).trans c0
        have d1 := (hbel.cell (p := ⟨b, o + k * 4 + 1, none⟩) hb).trans c1
        have d2 := (hbel.cell (p := ⟨b, o + k * 4 + 2, none⟩) hb).trans c2
        have d3 := (hbel.cell (p := ⟨b, o + k * 4 + 3, none⟩) hb).trans c3
        clear c0 c1 c2 c3
        have bad : lightF rs[k] = false → lightB rs = false := fun h => by unfold lightB; rw [all_badG k1 h]; simp
        have Hbad := hid bad
        clear bad
        have Hlow := hid (lightF_low (r := rs[k]))
        have Hhigh := hid (lightF_high (r := rs[k]))
        have Hmuch := hid (lightF_much (r := rs[k]))
        have Hok := hid (lightF_ok (r := rs[k]))
        have Hst := hid (all_stepG k1 Ha.out)
        have hpic := fun W => lightpic_any ⟨rs[k].x.pic, rs[k].A, rs[k].n, rs[k].c⟩ W
        have Hpic := hid hpic
        clear hpic
        by_cases g1 : rs[k].x.delay < 0
        · have hr := hid (Hbad.out (Hlow.out g1))
          go_wp2_with fail
          go_ret
          exact ⟨ret_bool hr.out.symm, hbel⟩
        by_cases g2 : 99 < rs[k].x.delay
        · have hr := hid (Hbad.out (Hhigh.out g2))
          go_wp2_with fail
          go_ret
          exact ⟨ret_bool hr.out.symm, hbel⟩
        have g1' : 0 ≤ rs[k].x.delay := by omega
        have g2' : rs[k].x.delay ≤ 99 := by omega
        go_wp2_with fail
        refine (Hpic.out _).mono ?_
        rintro e w1 ⟨rfl, hb1⟩
        have hbel' := bnext hbel hb1
        clear hbel hb1 d0 d1 d2 d3
        by_cases g3 : 80 < rs[k].n
        · have hr := hid (Hbad.out (Hmuch.out g3))
          rw [show decide (rs[k].n ≤ 80) = false by simp; omega]
          go_wp2_with fail
          go_ret
          exact ⟨ret_bool hr.out.symm, hbel'⟩
        · have hst := hid (Hst.out (Hok.out g1' g2' (by omega)))
          rw [show decide (rs[k].n ≤ 80) = true by simp; omega]
          go_wp2_with fail
          go_roundw
          case rel => exact ⟨k + 1, by omega, by go_num, hst.out, hbel'⟩
          case measure => simp [intOf]; omega
      · obtain rfl : k = n := by omega
        have hr := hid (show lightB rs = true by
          have := Ha.out
          rw [List.take_of_length_le (by rw [Hl.out]; omega)] at this
          unfold lightB
          rw [this, Hl.out]
          simp; omega)
        go_wp2_with fail
        go_ret
        exact ⟨ret_bool hr.out.symm, hbel⟩
noncomputable def eqFrs (l m : List FFrame) : Bool := @decide (l = m) (Classical.propDecidable _)
theorem eqFrs_self (l : List FFrame) : eqFrs l l = true := by unfold eqFrs; simp
theorem eqFrs_ne {l m : List FFrame} (h : l ≠ m) : eqFrs l m = false := by unfold eqFrs; simp [h]
theorem frs_pic_ne {rs ss : List (FAt FFrame)} {k : Nat} (h1 : k < rs.length) (h2 : k < ss.length) (h : samePic rs[k].x.pic ss[k].x.pic = false) : frs rs ≠ frs ss := by
  intro e
  have e' : (frs rs)[k]? = (frs ss)[k]? := by rw [e]
  rw [List.getElem?_eq_getElem (by rw [frs_len]; exact h1), List.getElem?_eq_getElem (by rw [frs_len]; exact h2), frs_at rs k h1, frs_at ss k h2] at e'
  rw [show rs[k].x = ss[k].x by injection e', samePic_self] at h
  cases h
theorem frs_delay_ne {rs ss : List (FAt FFrame)} {k : Nat} (h1 : k < rs.length) (h2 : k < ss.length) (h : rs[k].x.delay ≠ ss[k].x.delay) : frs rs ≠ frs ss := by
  intro e
  have e' : (frs rs)[k]? = (frs ss)[k]? := by rw [e]
  rw [List.getElem?_eq_getElem (by rw [frs_len]; exact h1), List.getElem?_eq_getElem (by rw [frs_len]; exact h2), frs_at rs k h1, frs_at ss k h2] at e'
  exact h (by rw [show rs[k].x = ss[k].x by injection e'])
theorem frs_take_eq {rs ss : List (FAt FFrame)} {k : Nat} (h1 : k < rs.length) (h2 : k < ss.length) (ht : (frs rs).take k = (frs ss).take k) (hp : samePic rs[k].x.pic ss[k].x.pic = true) (hd : rs[k].x.delay = ss[k].x.delay) :
    (frs rs).take (k + 1) = (frs ss).take (k + 1) := by
  apply take_eq_step (by rw [frs_len]; exact h1) (by rw [frs_len]; exact h2) ht
  rw [frs_at rs k h1, frs_at ss k h2]
  exact FFrame.ext' (samePic_iff.1 hp) hd
/-- the pictures are not too great -/
def Small (rs : List (FAt FFrame)) : Prop := ∀ r ∈ rs, r.n ≤ 1000000
set_option maxRecDepth 100000 in
set_option maxHeartbeats 1000000 in
theorem rsameframes_any (A B : Option Addr) (n m c d : Nat) (rs ss : List (FAt FFrame)) (w : World) (hl : Frames w A n rs) (hq : Frames w B m ss) (hn : n ≤ 1000000) (hm : m ≤ 1000000) (sr : Small rs) (sq : Small ss) :
    Calls Try.prog 26 #[.slice A n c, .slice B m d] w (Ret (.bool (eqFrs (frs rs) (frs ss))) w) := by
  have Hl := hid hl.1
  have Hq := hid hq.1
  by_cases hnm : n = m
  · subst hnm
    by_cases h0 : n = 0
    · subst h0
      have e1 : rs = [] := List.eq_nil_of_length_eq_zero Hl.out
      have e2 : ss = [] := List.eq_nil_of_length_eq_zero Hq.out
      have hr := hid (show eqFrs (frs rs) (frs ss) = true by rw [e1, e2]; exact eqFrs_self _)
      clear hl hq e1 e2 sr sq
      go_enter Try.func26, Try.ntmps26
      go_wp2
      go_loop [5] (fun i => i = .int .i64 0) (fun _ => 0)
      case atStart => rfl
      case round =>
        subst hrel
        go_wp2
        go_ret
        exact ⟨ret_bool hr.out.symm, Below.refl _ _⟩
    · obtain ⟨b1, o1, rfl, hb1, hc1⟩ := hl.open_ (by omega)
      obtain ⟨b2, o2, rfl, hb2, hc2⟩ := hq.open_ (by omega)
      have Hc1 := hid hc1
      have Hc2 := hid hc2
      have HP1 := hid hl.2.2
      have HP2 := hid hq.2.2
      have Sr := hid sr
      have Sq := hid sq
      clear hl hq hc1 hc2 sr sq
      go_enter Try.func26, Try.ntmps26
      go_wp2
      go_loopw [5] (fun i wr => ∃ k : Nat, k ≤ n ∧ i = .int .i64 k ∧ (frs rs).take k = (frs ss).take k ∧ Below w.heap.size w wr) (fun i _ => n - (intOf i).toNat)
      case atStart => exact ⟨0, by omega, rfl, rfl, Below.refl _ _⟩
      case round =>
        obtain ⟨k, hk, rfl, ht, hbel⟩ := hrel
        have Ht := hid ht
        clear ht
        by_cases hlt : k < n
        · have k1 : k < rs.length := by rw [Hl.out]; exact hlt
          have k2 : k < ss.length := by rw [Hq.out]; exact hlt
          obtain ⟨c10, c11, c12, c13⟩ := Hc1.out k k1
          obtain ⟨c20, c21, c22, c23⟩ := Hc2.out k k2
          have z1 := hbel.size
          have a0 := cell_all (p := ⟨b1, o1 + k * 4, none⟩) (by simp; omega) ((hbel.cell hb1).trans c10)
          have a1 := cell_all (p := ⟨b1, o1 + k * 4 + 1, none⟩) (by simp; omega) ((hbel.cell hb1).trans c11)
          have a2 := cell_all (p := ⟨b1, o1 + k * 4 + 2, none⟩) (by simp; omega) ((hbel.cell hb1).trans c12)
          have a3 := cell_all (p := ⟨b1, o1 + k * 4 + 3, none⟩) (by simp; omega) ((hbel.cell hb1).trans c13)
          have e0 := cell_all (p := ⟨b2, o2 + k * 4, none⟩) (by simp; omega) ((hbel.cell hb2).trans c20)
          have e1 := cell_all (p := ⟨b2, o2 + k * 4 + 1, none⟩) (by simp; omega) ((hbel.cell hb2).trans c21)
          have e2 := cell_all (p := ⟨b2, o2 + k * 4 + 2, none⟩) (by simp; omega) ((hbel.cell hb2).trans c22)
          have e3 := cell_all (p := ⟨b2, o2 + k * 4 + 3, none⟩) (by simp; omega) ((hbel.cell hb2).trans c23)
          have pk1 := (HP1.out rs[k] (List.getElem_mem k1)).below hbel
          have pk2 := (HP2.out ss[k] (List.getElem_mem k2)).below hbel
          have hcall := fun dd os => Ret.regrown (rsame_pic_any ⟨rs[k].x.pic, rs[k].A, rs[k].n, rs[k].c⟩ ⟨ss[k].x.pic, ss[k].A, ss[k].n, ss[k].c⟩ (grow (redrawn wr dd) os) (pk1.all dd os) (pk2.all dd os) (Sr.out _ (List.getElem_mem k1)) (Sq.out _ (List.getElem_mem k2)))
          have i1 : (0 : Int) ≤ (k : Int) := by omega
          have i2 : (k : Int) < (n : Int) := by omega
          have Nep := hid (frs_pic_ne k1 k2)
          have Ned := hid (frs_delay_ne k1 k2)
          have Hst := hid (frs_take_eq k1 k2 Ht.out)
          clear c10 c11 c12 c13 c20 c21 c22 c23 pk1 pk2
          simp only at hcall
          generalize hpb : samePic rs[k].x.pic ss[k].x.pic = pb at hcall
          rw [hpb] at Nep Hst
          clear hpb
          go_wp2_with fail
          refine wp_region_quiet_below (by kernel_rfl) (by kernel_rfl) ?_
          repeat (quiet_step (first | exact hcall _ _))
          (refine wpQuiet_nil ?_; intro _ hw'; obtain ⟨⟨dq, osq⟩, hw''⟩ := hw'; subst hw'')
          have hb3 := below_regrown wr dq osq
          have f3 := a3 dq osq
          have g3 := e3 dq osq
          have hbel' := bnext hbel hb3
          clear a0 a1 a2 a3 e0 e1 e2 e3 hcall hb3 hbel z1
          generalize grow (redrawn wr dq) osq = w3 at *
          cases pb
          · have hr := hid (eqFrs_ne (Nep.out rfl))
            go_wp2_with fail
            go_quiet (fail)
            go_wp2_with fail
            go_ret
            exact ⟨ret_bool hr.out.symm, below_drewN hbel' _⟩
          · by_cases hd : rs[k].x.delay = ss[k].x.delay
            · have hd' : (rs[k].x.delay != ss[k].x.delay) = false := by simpa using hd
              have hst := hid (Hst.out rfl hd)
              clear hd
              go_wp2_with fail
              go_quiet (fail)
              go_wp2_with fail
              go_roundw
              case rel => exact ⟨k + 1, by omega, by go_num, hst.out, below_drewN hbel' _⟩
              case measure => simp [intOf]; omega
            · have hd' : (rs[k].x.delay != ss[k].x.delay) = true := by simpa using hd
              have hr := hid (eqFrs_ne (Ned.out hd))
              clear hd
              go_wp2_with fail
              go_quiet (fail)
              go_wp2_with fail
              go_ret
              exact ⟨ret_bool hr.out.symm, below_drewN hbel' _⟩
        · obtain rfl : k = n := by omega
          have hr := hid (show eqFrs (frs rs) (frs ss) = true by
            have := Ht.out
            rw [List.take_of_length_le (by rw [frs_len, Hl.out]; omega), List.take_of_length_le (by rw [frs_len, Hq.out]; omega)] at this
            rw [this]; exact eqFrs_self _)
          go_wp2_with fail
          go_ret
          exact ⟨ret_bool hr.out.symm, hbel⟩
  · have hr := hid (show eqFrs (frs rs) (frs ss) = false by
      apply eqFrs_ne
      intro h
      have := congrArg List.length h
      rw [frs_len, frs_len] at this
      exact hnm (Hl.out.symm.trans (this.trans Hq.out)))
    have hne : ((n : Int) != (m : Int)) = true := by rw [bne_iff_ne]; omega
    clear hl hq hnm sr sq
    go_enter Try.func26, Try.ntmps26
    go_wp2_with fail
    go_ret
    exact ⟨ret_bool hr.out.symm, Below.refl _ _⟩
end Fb
