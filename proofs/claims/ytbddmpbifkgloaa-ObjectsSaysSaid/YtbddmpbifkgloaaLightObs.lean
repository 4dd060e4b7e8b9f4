/- flickerbooklaw.LightObjects: where it returns true the objects are few, may be, and rise. Conditions: none. -/
import Derived.Test.YtbddmpbifkgloaaObjsA
import Derived.Test.YtbddmpbifkgloaaLightPic
import Derived.BigQuiet
namespace Fb
open Go Go.Proofs Go.RowKit Go.Sort
def LightObs (rs : List (FAt FObj)) : Prop := rs.length ≤ 6 ∧ ObjsFine (dat rs) ∧ ∀ r ∈ rs, r.n ≤ 80
def LightK (rs : List (FAt FObj)) (k : Nat) : Prop := ∀ j (h : j < rs.length), j < k → rs[j].n ≤ 80 ∧ objFault rs[j].x = 0 ∧ ∀ (_ : 0 < j), (rs[j - 1]'(by omega)).x.id < rs[j].x.id
theorem LightK.zero (rs : List (FAt FObj)) : LightK rs 0 := fun j h hj => absurd hj (by omega)
theorem LightK.succ {rs : List (FAt FObj)} {k : Nat} (h : LightK rs k) (hk : k < rs.length) (h1 : rs[k].n ≤ 80) (h2 : objFault rs[k].x = 0) (h3 : 0 < k → (rs[k - 1]'(by omega)).x.id < rs[k].x.id) : LightK rs (k + 1) := fun j hj hj2 => by
  by_cases e : j = k
  · subst e; exact ⟨h1, h2, h3⟩
  · exact h j hj (by omega)
theorem LightK.done {rs : List (FAt FObj)} (h : LightK rs rs.length) (hn : rs.length ≤ 6) : LightObs rs := by
  refine ⟨hn, ⟨?_, ?_⟩, ?_⟩
  · unfold Rise
    rw [List.pairwise_iff_getElem]
    intro i j hi hj hij
    rw [dat_len] at hi hj
    rw [dat_at hi, dat_at hj]
    induction j with
    | zero => omega
    | succ j ih =>
      have h1 := (h (j + 1) hj (by omega)).2.2 (by omega)
      simp only [Nat.add_sub_cancel] at h1
      by_cases e : i = j
      · subst e; exact h1
      · have h2 := ih (by rw [dat_len] at *; omega) (by omega) (by omega)
        omega
  · intro o ho
    obtain ⟨r, hr, rfl⟩ := List.mem_map.1 ho
    obtain ⟨j, hj, rfl⟩ := List.getElem_of_mem hr
    exact objFault_fine.1 (h j hj (by omega)).2.1
  · intro r hr
    obtain ⟨j, hj, rfl⟩ := List.getElem_of_mem hr
    exact (h j hj (by omega)).1
/-- the call returns a truth; if it is true, so is this -/
def RetIf (p : Prop) (w : World) (e : Ending) (w' : World) : Prop := ∃ b : Bool, e = .returned (.bool b) ∧ (b = true → p) ∧ Below w.heap.size w w'
theorem RetIf.no {p : Prop} {w w' : World} {e : Ending} (he : e = .returned (.bool false)) (h : Below w.heap.size w w') : RetIf p w e w' := ⟨false, he, (fun h => by cases h), h⟩
theorem RetIf.yes {p : Prop} {w w' : World} {e : Ending} (he : e = .returned (.bool true)) (hp : p) (h : Below w.heap.size w w') : RetIf p w e w' := ⟨true, he, fun _ => hp, h⟩
theorem robjfault_zero (r : FAt FObj) (w : World) (hl : Pixs w r.A r.n r.x.pic.p) (hn : r.n ≤ 100) (h0 : objFault r.x = 0) : Calls Try.prog 12 #[objV r] w (Ret (.int .i64 0) w) := by
  have h := robjfault_any r w hl hn
  rw [h0] at h
  exact h
set_option maxRecDepth 100000 in
set_option maxHeartbeats 3200000 in
theorem lightobs_any (A : Option Addr) (n c : Nat) (rs : List (FAt FObj)) (w : World) (h : Objs w A n rs) : Calls Try.prog 8 #[.slice A n c] w (RetIf (LightObs rs) w) := by
  have Hl := hid h.1
  have HO := hid h
  clear h
  by_cases h6 : 6 < n
  · have h6' : (6 : Int) < (n : Int) := by omega
    clear h6
    go_enter Try.func8, Try.ntmps8
    go_wp2_with fail
    go_ret
    exact RetIf.no rfl (Below.refl _ _)
  have h6' : ¬ (6 : Int) < (n : Int) := by omega
  have h6n : n ≤ 6 := by omega
  clear h6
  go_enter Try.func8, Try.ntmps8
  go_wp2_with fail
  go_loopw [3] (fun i wr => ∃ k : Nat, k ≤ n ∧ i = .int .i64 k ∧ Hid (LightK rs k) ∧ Below w.heap.size w wr) (fun i _ => n - (intOf i).toNat)
  case atStart => exact ⟨0, by omega, rfl, hid (LightK.zero rs), Below.refl _ _⟩
  case round =>
    obtain ⟨k, hk, rfl, HK, hbel⟩ := hrel
    by_cases hlt : k < n
    · have k1 : k < rs.length := by rw [Hl.out]; exact hlt
      obtain ⟨b, off, rfl, hbs, hc⟩ := HO.out.open_ (by omega)
      have hcs := hc.cells hbel hbs k1
      have hbsr : b < wr.heap.size := Nat.lt_of_lt_of_le hbs hbel.size
      have q1 : (0 : Int) ≤ (k : Int) := by omega
      have q2 : (k : Int) < (n : Int) := by omega
      have hpo := (HO.out.2.2 rs[k] (List.getElem_mem k1)).below hbel
      have hp1 := fun (h : 0 < k) => (hc.cells hbel hbs (k := k - 1) (by omega)).1
      have Hs := hid (fun h1 h2 h3 => HK.out.succ k1 h1 h2 h3)
      have hp2 : ∀ h : 0 < k, ∃ p : Int, wr.cell? ⟨b, off + (k - 1) * 11, none⟩ = some (.int .i64 p) ∧ p = (rs[k - 1]'(by omega)).x.id := fun h => ⟨_, hp1 h, rfl⟩
      have HP2 := hid hp2
      clear hp1 hc HK hp2
      obtain ⟨pid, hpid⟩ : ∃ pid : Int, 0 < k → pid = (rs[k - 1]'(by omega)).x.id := by
        by_cases h0 : 0 < k
        · exact ⟨_, fun _ => rfl⟩
        · exact ⟨0, fun h => absurd h h0⟩
      have Hs2 := hid (fun h1 h2 (h3 : 0 < k → pid < rs[k].x.id) => Hs.out h1 h2 (fun h => by rw [← hpid h]; exact h3 h))
      have HP3 := hid (fun h : 0 < k => (show wr.cell? ⟨b, off + (k - 1) * 11, none⟩ = some (.int .i64 pid) from by
        obtain ⟨p, hp, e⟩ := HP2.out h
        rw [hpid h, ← e]; exact hp))
      clear Hs HP2 hpid
      generalize rs[k] = q at *
      clear k1
      obtain ⟨d0, d1, d2, d3, d4, d5, d6, d7, d8, d9, d10⟩ := hcs
      have D0 := cell_all2 hbsr d0
      have D1 := cell_all2 hbsr d1
      have D2 := cell_all2 hbsr d2
      have D3 := cell_all2 hbsr d3
      have D4 := cell_all2 hbsr d4
      have D5 := cell_all2 hbsr d5
      have D6 := cell_all2 hbsr d6
      have D7 := cell_all2 hbsr d7
      have D8 := cell_all2 hbsr d8
      have D9 := cell_all2 hbsr d9
      have D10 := cell_all2 hbsr d10
      clear d0 d1 d2 d3 d4 d5 d6 d7 d8 d9 d10
      have r1 := fun dd os => Ret.regrown (lightpic_any ⟨q.x.pic, q.A, q.n, q.c⟩ (grow (redrawn wr dd) os))
      simp only at r1
      by_cases g1 : q.n ≤ 80
      case neg =>
        rw [show decide (q.n ≤ 80) = false by simp; omega] at r1
        clear g1 hpo Hs2 HP3
        go_wp2_with fail
        refine wp_region_quiet_below (by kernel_rfl) (by kernel_rfl) ?_
        repeat (go_big_quiet_step (exact r1 _ _))
        (refine wpQuiet_nil ?_; intro _ hw'; obtain ⟨⟨dq, osq⟩, hw''⟩ := hw'; subst hw'')
        have hb3 := bnext hbel (below_regrown wr dq osq)
        clear r1 D0 D1 D2 D3 D4 D5 D6 D7 D8 D9 D10
        generalize grow (redrawn wr dq) osq = w3 at *
        go_wp2_with fail
        go_ret
        exact RetIf.no rfl hb3
      rw [show decide (q.n ≤ 80) = true by simp; omega] at r1
      have r2 := fun dd os => Ret.regrown (robjfault_any q (grow (redrawn wr dd) os) (hpo.below (below_regrown wr dd os)) (by omega))
      have Hs3 := hid (Hs2.out g1)
      have Hz := hid (fun (h0 : objFault q.x = 0) dd os => Ret.regrown (robjfault_zero q (grow (redrawn wr dd) os) (hpo.below (below_regrown wr dd os)) (by omega) h0))
      clear hpo Hs2 g1
      generalize objFault q.x = F at *
      by_cases g2 : F = 0
      case neg =>
        clear Hz
        have g2' : decide ((0 : Int) < (F : Int)) = true := decide_eq_true (by omega)
        have g2n : decide (0 < F) = true := decide_eq_true (by omega)
        have g2p : 0 < F := by omega
        clear g2 Hs3 HP3
        go_wp2_with fail
        refine wp_region_quiet_below (by kernel_rfl) (by kernel_rfl) ?_
        repeat (go_big_quiet_step (first | (go_at_call 9; exact r1 _ _) | (go_at_call 12; exact r2 _ _)))
        (refine wpQuiet_nil ?_; intro _ hw'; obtain ⟨⟨dq, osq⟩, hw''⟩ := hw'; subst hw'')
        have hb3 := bnext hbel (below_regrown wr dq osq)
        clear r1 r2 D0 D1 D2 D3 D4 D5 D6 D7 D8 D9 D10
        generalize grow (redrawn wr dq) osq = w3 at *
        go_wp2_with fail
        go_ret
        exact RetIf.no rfl hb3
      have Hs4 := hid (Hs3.out g2)
      have r2 := Hz.out g2
      clear Hs3 Hz g2
      by_cases g3 : k = 0
      · have hs := hid (Hs4.out (fun h => absurd h (by omega)))
        have g3a : decide ((0 : Int) < (k : Int)) = false := decide_eq_false (by omega)
        have g3b : decide (0 < k) = false := decide_eq_false (by omega)
        clear Hs4 HP3 g3
        go_wp2_with fail
        refine wp_region_quiet_below (by kernel_rfl) (by kernel_rfl) ?_
        repeat (go_big_quiet_step (first | (go_at_call 9; exact r1 _ _) | (go_at_call 12; exact r2 _ _)))
        (refine wpQuiet_nil ?_; intro _ hw'; obtain ⟨⟨dq, osq⟩, hw''⟩ := hw'; subst hw'')
        have hb3 := bnext hbel (below_regrown wr dq osq)
        clear r1 r2 D0 D1 D2 D3 D4 D5 D6 D7 D8 D9 D10
        generalize grow (redrawn wr dq) osq = w3 at *
        go_wp2_with fail
        go_roundw
        case rel => exact ⟨k + 1, by omega, by go_num, hs, hb3⟩
        case measure => simp [intOf]; omega
      · have E0 := cell_all2 hbsr (HP3.out (by omega))
        have wk : IntKind.i64.wrap ((k : Int) - 1) = (k : Int) - 1 := IntWalk.i64_in _ (by omega)
        have q3 : (0 : Int) < (k : Int) := by omega
        have q3a : decide ((0 : Int) < (k : Int)) = true := decide_eq_true (by omega)
        have q3b : decide (0 < k) = true := decide_eq_true (by omega)
        have q4 : (0 : Int) ≤ (k : Int) - 1 := by omega
        have q5 : (k : Int) - 1 < (n : Int) := by omega
        by_cases g4 : q.x.id ≤ pid
        · have g4' : decide (q.x.id ≤ pid) = true := decide_eq_true g4
          clear g4 Hs4 HP3 g3
          go_wp2_with fail
          refine wp_region_quiet_below (by kernel_rfl) (by kernel_rfl) ?_
          repeat (go_big_quiet_step (first | (go_at_call 9; exact r1 _ _) | (go_at_call 12; exact r2 _ _)))
          (refine wpQuiet_nil ?_; intro _ hw'; obtain ⟨⟨dq, osq⟩, hw''⟩ := hw'; subst hw'')
          have hb3 := bnext hbel (below_regrown wr dq osq)
          clear r1 r2 D0 D1 D2 D3 D4 D5 D6 D7 D8 D9 D10 E0
          generalize grow (redrawn wr dq) osq = w3 at *
          go_wp2_with fail
          go_ret
          exact RetIf.no rfl hb3
        · have g4' : decide (q.x.id ≤ pid) = false := decide_eq_false g4
          have hs := hid (Hs4.out (fun _ => by omega))
          clear g4 Hs4 HP3 g3
          go_wp2_with fail
          refine wp_region_quiet_below (by kernel_rfl) (by kernel_rfl) ?_
          repeat (go_big_quiet_step (first | (go_at_call 9; exact r1 _ _) | (go_at_call 12; exact r2 _ _)))
          (refine wpQuiet_nil ?_; intro _ hw'; obtain ⟨⟨dq, osq⟩, hw''⟩ := hw'; subst hw'')
          have hb3 := bnext hbel (below_regrown wr dq osq)
          clear r1 r2 D0 D1 D2 D3 D4 D5 D6 D7 D8 D9 D10 E0
          generalize grow (redrawn wr dq) osq = w3 at *
          go_wp2_with fail
          go_roundw
          case rel => exact ⟨k + 1, by omega, by go_num, hs, hb3⟩
          case measure => simp [intOf]; omega
    · obtain rfl : k = n := by omega
      have hd := hid (show LightObs rs from LightK.done (by rw [Hl.out]; exact HK.out) (by rw [Hl.out]; exact h6n))
      clear HK
      go_wp2_with fail
      go_ret
      exact RetIf.yes rfl hd.out hbel
end Fb
