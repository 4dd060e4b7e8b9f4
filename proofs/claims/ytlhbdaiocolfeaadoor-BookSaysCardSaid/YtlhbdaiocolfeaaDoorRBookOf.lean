/- book.Parse: it returns what the plain law of reading books says. Condition: the variable holds the names. ref.BookOf: it returns what the plain law of reading books says. Condition: the variable holds the names. -/
import Derived.Test.YtlhbdaiocolfeaaDoorBookRead
import Derived.Test.YtlhbdaiocolfeaaDoorBookBytesW
import Derived.Test.YtlhbdaiocolfeaaDoorROpOf
import Derived.Deep.DrawnRows
namespace Fb
open Go Go.Proofs Go.RowKit Go.Sort
attribute [local go_sem ↓] Go.wp_at_zero Go.wp_at_succ
set_option maxRecDepth 100000 in
set_option maxHeartbeats 4000000 in
theorem bookparse_any (S : Bs) (w : World) (hS : S.length ≤ 1000000) (hN : NamesAt 0 w) :
    Calls Tryd.prog 21 #[.string (strOf S)] w (RetOpsE (bookOf S) w) := by
  obtain ⟨i0, hi, hz0, hz1, hz2⟩ := info_parts info_op
  have HN := hid hN
  have hsz := strOf_size S
  clear hN
  by_cases h4 : 4000 < S.length
  · have hV := hid (bookOf_many h4)
    have i4 : (4000 : Int) < ((strOf S).size : Int) := by omega
    clear hsz h4
    go_enter Tryd.func21, Tryd.ntmps21
    go_wp2_with fail
    go_ret2
    have := retOpsE_bad (w := w) (w' := w) hV.out (Below.refl _ _)
    rw [errV_pos (by decide)] at this
    exact this
  have i4 : ¬ (4000 : Int) < ((strOf S).size : Int) := by omega
  have HBC := hid (fun hc => bookOf_chunks (s := S) h4 hc)
  have HBG := hid (fun hc => bookOf_go (s := S) h4 hc)
  have Hfine := hid (allL_fine S 120)
  have Hfew := hid (allL_few S 120)
  have hle := (allL_le S 120).1
  clear hsz
  go_enter Tryd.func21, Tryd.ntmps21
  go_wp2_with fail
  refine (all_any S 120 w hS).mono ?_
  rintro e w2 ⟨A2, c2, rfl, hch, hb2⟩
  obtain ⟨⟨cs, F⟩, hX⟩ : ∃ X, allL S 120 = X := ⟨_, rfl⟩
  rw [hX] at hch hle ⊢
  have HBC2 := HBC.out
  have HBG2 := HBG.out
  have Hf2 := Hfine.out
  have Hw2 := Hfew.out
  rw [hX] at HBC2 HBG2 Hf2 Hw2
  simp only at HBC2 HBG2 Hf2 Hw2 hch hle ⊢
  have HBc := hid HBC2
  have HBg := hid HBG2
  have Hfn := hid Hf2
  clear HBC HBG Hfine Hfew HBC2 HBG2 Hf2 hX i4
  by_cases hF : F = 0
  case neg =>
    have hV := hid (HBc.out hF)
    rw [errV_pos hF]
    have HE := hid (errV_pos hF)
    clear hF hch
    go_wp2_with fail
    go_ret2
    have := retOpsE_bad (w := w) (w' := w2) hV.out hb2
    rw [HE.out] at this
    exact this
  have hV := hid (HBg.out hF)
  rw [hF, errV_zero]
  clear hF HBc HBg
  have hcl : cs.length = cs.length := rfl
  obtain ⟨n, hn⟩ : ∃ n, cs.length = n := ⟨_, rfl⟩
  rw [hn] at hch Hw2 ⊢
  have HCH := hid hch
  have hn500 : n ≤ 500 := by omega
  have HB2 := hid hb2
  clear hcl hch hb2 Hw2
  go_wp2_with fail
  go_loopw [6, 25] (fun lv iv wr => ∃ (k : Nat) (rs : List (FAt FOp)), k ≤ n ∧ iv = .int .i64 k ∧ Hid (wr.ownsRow w2.heap.size 26 9 lv rs.length (rs.flatMap opCells)) ∧ Hid (OpsHeld wr lv rs) ∧ rs.length ≤ k ∧ Hid (bookOf S = readEnd (opsGo (cs.drop k) (datO rs))) ∧ Hid (Below w2.heap.size w2 wr)) (fun _ iv _ => n - (intOf iv).toNat)
  case atStart => exact ⟨0, [], by omega, rfl, hid (World.ownsRow_nil _ _ _ _), hid (OpsHeld.nil _ _), by simp, hV, hid (Below.refl _ _)⟩
  case round =>
    clear hV
    obtain ⟨k, rs, hk, rfl, HO, HH, hrl, HV, HB⟩ := hrel
    obtain ⟨lA, lc, rfl, hlA, hlc⟩ := own_slice HO.out
    have HlA := hid hlA
    clear hlA hlc
    by_cases hlt : k < n
    · obtain ⟨b, off, rfl, hb, hcc⟩ := Chunks.open_ HCH.out (by omega)
      obtain ⟨q0, q1⟩ := hcc k (by omega)
      have hfc := Hfn.out cs[k] (List.getElem_mem _)
      have hdk := HV.out
      rw [List.drop_eq_getElem_cons (show k < cs.length by omega)] at hdk
      obtain ⟨⟨N, D⟩, hc⟩ : ∃ c, cs[k] = c := ⟨_, rfl⟩
      rw [hc] at q0 q1 hfc hdk
      simp only at q0 q1 hfc
      have c0 := (HB.out.cell (p := ⟨b, off + k * 2, none⟩) hb).trans q0
      have c1 := (HB.out.cell (p := ⟨b, off + k * 2 + 1, none⟩) hb).trans q1
      have HD := hid hdk
      have i1 : (0 : Int) ≤ (k : Int) := by omega
      have i2 : (k : Int) < (n : Int) := by omega
      clear hc hdk HV q0 q1 hcc
      go_upto_region 10 with fail
      obtain ⟨W3, hW3⟩ : ∃ W3, W3 = wr.alloc (.cells #[.string (strOf N), .string (strOf D)] 30) := ⟨_, rfl⟩
      have hb3 : Below wr.heap.size wr W3 := by rw [hW3]; exact (Below.refl _ _).alloc (Nat.le_refl _) _
      have HC3 : Hid (W3.heap[wr.heap.size]? = some (.cells #[.string (strOf N), .string (strOf D)] 30)) := hid (by rw [hW3]; exact heap_alloc_new wr _)
      obtain ⟨gc, hgc⟩ : ∃ g, g = wr.heap.size := ⟨_, rfl⟩
      rw [← hgc] at HC3
      rw [← hW3, ← hgc]
      have HO3 := hid (own_keep HO.out hb3)
      have HH3 := hid (HH.out.below hb3)
      have HB3 := hid (bnext HB.out hb3)
      have HlA3 := hid (fun a ha => Nat.lt_of_lt_of_le (HlA.out a ha).2.1 hb3.size)
      clear hW3 hgc hb3 c0 c1 HO HH HB HlA
      have u0 := opblk_cell HC3.out 0 _ rfl
      have u1 := opblk_cell HC3.out 1 _ rfl
      have k0 : 0 < (strOf N).size := by rw [strOf_size]; omega
      have k1 : (0 : Int) < ((strOf N).size : Int) := by omega
      have b0 := byte_in (D := N) k0
      obtain ⟨x0, hx0⟩ : ∃ x, N.getD 0 0 = x := ⟨_, rfl⟩
      rw [hx0] at b0
      have Hx0 := hid hx0
      clear hx0
      by_cases hx : x0 = 88
      · have hx8 : x0.toNat = 88 := by rw [hx]; rfl
        have HN2 := hid (HD.out.trans (congrArg readEnd (opsGo_x (c := (N, D)) (by rw [← hx]; exact Hx0.out))))
        clear hx
        go_wp2_with fail
        go_roundw
        case rel => exact ⟨k + 1, rs, by omega, by go_num, HO3, HH3, by omega, HN2, HB3⟩
        case measure => simp [intOf]; omega
      · have hx8 : x0.toNat ≠ 88 := fun e => hx (by rw [← UInt8.toNat_inj]; exact e)
        have hxe : N.getD 0 0 ≠ 88 := by rw [Hx0.out]; exact hx
        have HXE := hid hxe
        clear hx hxe
        go_wp2_with fail
        refine (opparse_any N D W3 (by omega) (HN.out.below (bnext HB2.out HB3.out))).mono ?_
        rintro e w4 ⟨pA, pc, rfl, hpx, hnew, hb4⟩
        have hsm := opOf_sm N D
        have HBAD := hid (fun hh => HD.out.trans (congrArg readEnd (opsGo_bad (c := (N, D)) HXE.out hh)))
        have HOK := hid (fun hh => HD.out.trans (congrArg readEnd (opsGo_ok (c := (N, D)) HXE.out hh)))
        obtain ⟨⟨⟨xk, xi, xa, xb, xc, xd, ⟨xw, xh, xl⟩⟩, xf⟩, hX⟩ : ∃ X, opOf N D = X := ⟨_, rfl⟩
        have HBAD2 := HBAD.out
        have HOK2 := HOK.out
        simp only [hX] at HBAD2 HOK2 hsm hpx hnew ⊢
        have HBad := hid HBAD2
        have HOk := hid HOK2
        have HPX := hid hpx
        have HNew := hid hnew
        have HO4 := hid (own_keep HO3.out hb4)
        have HH4 := hid (HH3.out.below hb4)
        have HB4 := hid (bnext HB3.out hb4)
        have hz34 := hb4.size
        clear hX HBAD HOK HBAD2 HOK2 hpx hnew hb4 HD u0 u1 HC3 HO3 HH3 HB3 k0 k1 b0 hx8 Hx0 HXE
        go_upto_region 12 with fail
        obtain ⟨W5, hW5⟩ : ∃ W5, W5 = w4.alloc (.cells #[.int .i64 xk, .int .i64 xi, .int .i64 xa, .int .i64 xb, .int .i64 xc, .int .i64 xd, .int .i64 xw, .int .i64 xh, .slice pA xl.length pc] 26) := ⟨_, rfl⟩
        have hb5 : Below w4.heap.size w4 W5 := by rw [hW5]; exact (Below.refl _ _).alloc (Nat.le_refl _) _
        have HX5 : Hid (OpBoxAt w4.heap.size xk xi xa xb xc xd xw xh pA xl.length pc W5) := hid (by rw [hW5]; exact heap_alloc_new w4 _)
        obtain ⟨g, hg⟩ : ∃ g, g = w4.heap.size := ⟨_, rfl⟩
        rw [← hg] at HX5
        rw [← hW5, ← hg]
        have HO5 := hid (own_keep HO4.out hb5)
        have HH5 := hid (HH4.out.below hb5)
        have HB5 := hid (bnext HB4.out hb5)
        have HPX5 := hid (HPX.out.below hb5)
        clear hW5 hg hb5 HO4 HH4 HB4 HPX
        by_cases hxf : xf = 0
        case neg =>
          have hV := hid (HBad.out hxf)
          have HR := hid ((hV.out.trans (readEnd_bad hxf)))
          rw [errV_pos hxf]
          have HE := hid (errV_pos hxf)
          clear hxf hV
          go_wp2_with fail
          go_ret2
          have := retOpsE_bad (w := w) (w' := W5) HR.out (bnext HB2.out HB5.out)
          rw [HE.out] at this
          exact this
        have HN2 := hid (HOk.out hxf)
        rw [hxf, errV_zero]
        clear hxf HBad HOk
        obtain ⟨c0, c1, c2, c3, c4, c5, c6, c7, c8⟩ := OpBoxAt.cells HX5.out
        have hown5 := HO5.out
        go_wp2_with (at_builtin; refine wpList_append_own_at _ rfl _ _ 46 rfl w2.heap.size 26 i0 (.agg #[.int .i64 0, .int .i64 0, .int .i64 0, .int .i64 0, .int .i64 0, .int .i64 0, .int .i64 0, .int .i64 0, .slice none 0 0]) 9 88 Tryd.underlying46 hi hz0 hz1 hz2 rfl (by decide) _ _ _ rfl (hown5.alloc _) ⟨W5.heap.size, 0, none⟩ 1 1 (opCells ⟨⟨xk, xi, xa, xb, xc, xd, ⟨xw, xh, xl⟩⟩, pA, xl.length, pc⟩) rfl rfl ?c1 ?c2 ?c3 ?c4 ?c5 ?_)
        case c1 => exact new_cells W5 #[.int .i64 xk, .int .i64 xi, .int .i64 xa, .int .i64 xb, .int .i64 xc, .int .i64 xd, .int .i64 xw, .int .i64 xh, .slice pA xl.length pc] 26
        case c2 => intro u hu; simp [opCells] at hu; rcases hu with rfl | rfl | rfl | rfl | rfl | rfl | rfl | rfl | rfl <;> rfl
        case c3 => unfold maxLen; omega
        case c4 => omega
        case c5 => have := HB5.out.size; simp; omega
        intro v' w6 hown' hgrow _ hvo
        obtain ⟨R, hR⟩ : ∃ R : FAt FOp, R = ⟨⟨xk, xi, xa, xb, xc, xd, ⟨xw, xh, xl⟩⟩, pA, xl.length, pc⟩ := ⟨_, rfl⟩
        have HO6 : Hid (w6.ownsRow w2.heap.size 26 9 v' (rs ++ [R]).length ((rs ++ [R]).flatMap opCells)) := hid (by
          rw [hR, List.length_append, List.flatMap_append]
          simpa using hown')
        have hal : Below W5.heap.size W5 (W5.alloc (.cells #[.int .i64 xk, .int .i64 xi, .int .i64 xa, .int .i64 xb, .int .i64 xc, .int .i64 xd, .int .i64 xw, .int .i64 xh, .slice pA xl.length pc] 26)) := (Below.refl _ _).alloc (Nat.le_refl _) _
        have HH6 : Hid (OpsHeld w6 v' (rs ++ [R])) := hid (by
          refine (HH5.out.below hal).put (r := R) ?_ ?_ ?_ hgrow (by simpa using hvo)
          · rw [hR]; exact HPX5.out.below hal
          · rw [hR]; exact hsm.1
          · rw [hR]
            intro h0 a ha e
            have h1 := HNew.out a ha
            have h2 := HlA3.out
            cases lA with
            | none => simp [Value.ownBlock] at e
            | some la =>
              simp [Value.ownBlock] at e
              have := h2 la rfl
              omega)
        have HB6 := hid ((HB5.out.alloc HB5.out.size (.cells #[.int .i64 xk, .int .i64 xi, .int .i64 xa, .int .i64 xb, .int .i64 xc, .int .i64 xd, .int .i64 xw, .int .i64 xh, .slice pA xl.length pc] 26)).grown hgrow (by have := HB5.out.size; simp; omega) (fun g hg => (HO5.out.lt g hg).1))
        have HN3 : Hid (bookOf S = readEnd (opsGo (cs.drop (k + 1)) (datO (rs ++ [R])))) := hid (by rw [HN2.out, hR]; simp [datO])
        clear hown' hgrow hvo hal hown5 hR HO5 HH5 HB5 HPX5 HN2
        go_wp2_with fail
        go_roundw
        case rel => exact ⟨k + 1, rs ++ [R], by omega, by go_num, HO6, HH6, by simp; omega, HN3, HB6⟩
        case measure => simp [intOf]; omega
    · obtain rfl : k = n := by omega
      have hE := HV.out
      rw [List.drop_of_length_le (by omega), opsGo] at hE
      have HE := hid hE
      have hops := ops_own HO.out rfl HH.out
      have hs100 := fun r hr => (HH.out r hr).2.1
      have HOps := hid hops
      have HS1 := hid hs100
      clear hE HV hops hs100
      go_wp2_with fail
      refine (bookcheck_any lA rs.length lc rs wr HOps.out HS1.out (by omega)).mono ?_
      rintro e w7 ⟨rfl, hb7⟩
      have HB7 := hid (bnext HB2.out (bnext HB.out hb7))
      by_cases hbf : bookFault (datO rs) = 0
      · have HR := hid (HE.out.trans (readEnd_ok hbf))
        rw [hbf, errV_zero]
        clear hbf
        go_wp2_with fail
        go_ret2
        rw [HR.out]
        exact ⟨lA, rs.length, lc, rs, by rw [errV_zero]; rfl, HOps.out.below hb7, rfl, HS1.out, HB7.out⟩
      · have HR := hid (HE.out.trans (readEnd_book hbf))
        rw [errV_pos hbf]
        have HEr := hid (errV_pos hbf)
        clear hbf
        generalize bookFault (datO rs) = F at *
        go_wp2_with fail
        go_ret2
        have := retOpsE_bad (w := w) (w' := w7) HR.out HB7.out
        rw [HEr.out] at this
        exact this
end Fb
namespace Fb
open Go Go.Proofs Go.RowKit Go.Sort
attribute [local go_sem ↓] Go.wp_at_zero Go.wp_at_succ
theorem info_str : (Tryd.prog.info? 9).map (fun i => (i.zero, i.size, i.bytes)) = some (some (.string ⟨#[]⟩), 1, 16) := by kernel_rfl
theorem own_beside {w w' : World} {base : Nat} {e : TypeId} {size n : Nat} {v : Value} {xs : List Value} {row : Option Nat} (h : w.ownsRow base e size v n xs) (hg : w.grownBy w' row) (hne : ∀ g, v.ownBlock = some g → row ≠ some g) : w'.ownsRow base e size v n xs := by
  obtain ⟨h1, h2⟩ := h
  refine ⟨h1, ?_⟩
  rcases h2 with h2 | ⟨g, cap, cur, hv, hb, hh, r⟩
  · exact Or.inl h2
  · refine Or.inr ⟨g, cap, cur, hv, hb, ?_, r⟩
    rw [hg.block g (Array.getElem?_eq_some_iff.1 hh).1 (fun e => hne g (by rw [hv]; rfl) e.symm)]
    exact hh
/-- two slices of the call's own do not lie in one block -/
def Twain (v u : Value) : Prop := ∀ g, v.ownBlock = some g → u.ownBlock ≠ some g
theorem Twain.symm {v u : Value} (h : Twain v u) : Twain u v := fun g h1 h2 => h g h2 h1
theorem Twain.put {w : World} {v v' u : Value} {base e size n : Nat} {xs : List Value} (h : Twain v u) (hu : w.ownsRow base e size u n xs) (hv : v'.ownBlock = v.ownBlock ∨ v'.ownBlock = some w.heap.size) : Twain v' u := by
  intro g h1 h2
  rcases hv with hv | hv
  · rw [hv] at h1; exact h g h1 h2
  · rw [hv] at h1
    injection h1 with h1
    have := (hu.lt g h2).2
    omega
def nmC (acc : List (Bs × Bs)) : List Value := acc.map fun c => .string (strOf c.1)
def dtC (acc : List (Bs × Bs)) : List Value := acc.map fun c => .string (strOf c.2)
/-- a variable of the call's own that holds an op, whose pixels lie in new memory -/
def NewOpR (W : World) (o : FOp) (t : Value) (wi : World) : Prop := ∃ (g : Nat) (A : Option Addr) (c : Nat), t = .pointer (some ⟨g, 0, none⟩) ∧ OpBoxAt g o.kind o.id o.a o.b o.c o.d o.pic.w o.pic.h A o.pic.p.length c wi ∧ Pixs wi A o.pic.p.length o.pic.p ∧ (∀ a, A = some a → W.heap.size ≤ a.block) ∧ Below W.heap.size W wi
theorem newop_new {W w' : World} {k i a b c d pw ph : Int} {pl : List Px} {A : Option Addr} {cp : Nat} (hb : Below W.heap.size W w') (hp : Pixs w' A pl.length pl) (hn : ∀ x, A = some x → W.heap.size ≤ x.block) :
    NewOpR W ⟨k, i, a, b, c, d, ⟨pw, ph, pl⟩⟩ (.pointer (some ⟨w'.heap.size, 0, none⟩)) (w'.alloc (.cells #[.int .i64 k, .int .i64 i, .int .i64 a, .int .i64 b, .int .i64 c, .int .i64 d, .int .i64 pw, .int .i64 ph, .slice A pl.length cp] 26)) :=
  ⟨_, A, cp, rfl, heap_alloc_new w' _, hp.below ((Below.refl _ _).alloc (Nat.le_refl _) _), hn, hb.alloc hb.size _⟩
theorem newop_set {W w' : World} {k i a b c d pw ph : Int} {pl : List Px} {A : Option Addr} {cp g : Nat} (hb : Below W.heap.size W w') (h1 : W.heap.size ≤ g) (hz : w'.heap[g]? = some (.cells #[.int .i64 0, .int .i64 0, .int .i64 0, .int .i64 0, .int .i64 0, .int .i64 0, .int .i64 0, .int .i64 0, .slice none 0 0] 26)) (hp : Pixs w' A pl.length pl) (hn : ∀ x, A = some x → W.heap.size ≤ x.block) (hne : ∀ x, A = some x → x.block ≠ g) :
    NewOpR W ⟨k, i, a, b, c, d, ⟨pw, ph, pl⟩⟩ (.pointer (some ⟨g, 0, none⟩)) (((((((((w'.setCell ⟨g, 0, none⟩ (.int .i64 k)).setCell ⟨g, 1, none⟩ (.int .i64 i)).setCell ⟨g, 2, none⟩ (.int .i64 a)).setCell ⟨g, 3, none⟩ (.int .i64 b)).setCell ⟨g, 4, none⟩ (.int .i64 c)).setCell ⟨g, 5, none⟩ (.int .i64 d)).setCell ⟨g, 6, none⟩ (.int .i64 pw)).setCell ⟨g, 7, none⟩ (.int .i64 ph)).setCell ⟨g, 8, none⟩ (.slice A pl.length cp)) := by
  refine ⟨g, A, cp, rfl, ?_, ?_, hn, ?_⟩
  · have h0 : OpBoxAt g k 0 0 0 0 0 0 0 none 0 0 (w'.setCell ⟨g, 0, none⟩ (.int .i64 k)) := by
      unfold OpBoxAt
      rw [setCell_eq_setRow w' g 0 _ _ (0, 0) _ hz, setRow_heap _ _ _ _ _ _ hz]; rfl
    exact OpBoxAt.setPic (OpBoxAt.set5 (OpBoxAt.set4 (OpBoxAt.set3 (OpBoxAt.set2 (OpBoxAt.set1 h0 i) a) b) c) d) pw ph A pl.length cp
  · exact pixs_set (pixs_set (pixs_set (pixs_set (pixs_set (pixs_set (pixs_set (pixs_set (pixs_set hp hne) hne) hne) hne) hne) hne) hne) hne) hne
  · exact ((((((((hb.setCell h1 _).setCell h1 _).setCell h1 _).setCell h1 _).setCell h1 _).setCell h1 _).setCell h1 _).setCell h1 _).setCell h1 _
theorem nm_cell {w : World} {A : Option Addr} {n : Nat} {acc : List (Bs × Bs)} (h : Row w A n 1 (nmC acc)) (hn : 0 < n) : ∃ b off, A = some ⟨b, off, none⟩ ∧ b < w.heap.size ∧ ∀ k (hk : k < acc.length), w.cell? ⟨b, off + k, none⟩ = some (.string (strOf acc[k].1)) := by
  obtain ⟨b, off, e, hb, hc⟩ := h.2 hn
  exact ⟨b, off, e, hb, fun k hk => hc k _ (by simp [nmC, hk])⟩
theorem dt_cell {w : World} {A : Option Addr} {n : Nat} {acc : List (Bs × Bs)} (h : Row w A n 1 (dtC acc)) (hn : 0 < n) : ∃ b off, A = some ⟨b, off, none⟩ ∧ b < w.heap.size ∧ ∀ k (hk : k < acc.length), w.cell? ⟨b, off + k, none⟩ = some (.string (strOf acc[k].2)) := by
  obtain ⟨b, off, e, hb, hc⟩ := h.2 hn
  exact ⟨b, off, e, hb, fun k hk => hc k _ (by simp [dtC, hk])⟩
set_option maxRecDepth 100000 in
set_option maxHeartbeats 4000000 in
theorem rbookof_any (S : Bs) (w : World) (hS : S.length ≤ 1000000) (hN : NamesAt 1 w) :
    Calls Tryd.prog 22 #[.string (strOf S)] w (RetOpsN (bookOf S) w) := by
  obtain ⟨i0, hi, hz0, hz1, hz2⟩ := info_parts info_op
  obtain ⟨s0, hsi, hs0, hs1, hs2⟩ := info_parts info_str
  have HN := hid hN
  have hsz := strOf_size S
  clear hN
  by_cases h4 : 4000 < S.length
  · have hV := hid (bookOf_many h4)
    have i4 : (4000 : Int) < ((strOf S).size : Int) := by omega
    clear hsz h4
    go_enter Tryd.func22, Tryd.ntmps22
    go_wp2_with fail
    go_ret2
    exact retOpsN_bad (f := 2) hV.out (Below.refl _ _)
  have i4 : ¬ (4000 : Int) < ((strOf S).size : Int) := by omega
  have HBC := hid (fun hc => bookOf_chunks (s := S) h4 hc)
  have HBG := hid (fun hc => bookOf_go (s := S) h4 hc)
  have Hfine := hid (allL_fine S 120)
  have Hfew := hid (allL_few S 120)
  clear hsz
  go_enter Tryd.func22, Tryd.ntmps22
  go_wp2_with fail
  clear i4
  go_loopw [0, 4, 5] (fun s nv dv wr => ∃ (L : Bs) (acc : List (Bs × Bs)), s = .string (strOf L) ∧ Hid (wr.ownsRow w.heap.size 9 1 nv acc.length (nmC acc)) ∧ Hid (wr.ownsRow w.heap.size 9 1 dv acc.length (dtC acc)) ∧ Hid (Twain nv dv) ∧ 8 * acc.length + L.length ≤ S.length ∧ Hid (AllInv S 120 L acc) ∧ Hid (Below w.heap.size w wr)) (fun s _ _ _ => strLen s)
  case atStart => exact ⟨S, [], rfl, hid (World.ownsRow_nil _ _ _ _), hid (World.ownsRow_nil _ _ _ _), hid (fun g h => by simp [Value.ownBlock] at h), by simp, hid (AllInv.start _ _), hid (Below.refl _ _)⟩
  case round =>
    obtain ⟨L, acc, rfl, HNo, HDo, HT, hlen, HI, HB⟩ := hrel
    obtain ⟨nA, nc, rfl, -, -⟩ := own_slice HNo.out
    obtain ⟨dA, dc, rfl, -, -⟩ := own_slice HDo.out
    by_cases hL : L = []
    · have hd := HI.out.done hL
      have hC := HBG.out (by rw [hd])
      rw [hd] at hC
      have hF := Hfine.out
      rw [hd] at hF
      simp only at hC hF
      have HV := hid hC
      have HFn := hid hF
      have hemp : (strOf L).toList = [] := by rw [strOf_list', hL]
      clear HI hd hC hF HBC HBG Hfine Hfew
      subst hL
      obtain ⟨n, hn⟩ : ∃ n, acc.length = n := ⟨_, rfl⟩
      obtain ⟨wo, rfl⟩ : ∃ wo : World, wo = wr := ⟨_, rfl⟩
      have hn500 : n ≤ 500 := by simp at hlen; omega
      have hrN := Row.of_own HNo.out
      have hrD := Row.of_own HDo.out
      rw [hn] at hrN hrD ⊢
      have HrN := hid hrN
      have HrD := hid hrD
      clear hrN hrD HNo HDo HT
      go_wp2_with fail
      clear hemp
      go_loopw [10, 11] (fun lv iv wr => ∃ (k : Nat) (rs : List (FAt FOp)), k ≤ n ∧ iv = .int .i64 k ∧ Hid (wr.ownsRow wo.heap.size 26 9 lv rs.length (rs.flatMap opCells)) ∧ Hid (OpsHeld wr lv rs) ∧ rs.length ≤ k ∧ Hid (bookOf S = readEnd (opsGo (acc.drop k) (datO rs))) ∧ Hid (Below wo.heap.size wo wr)) (fun _ iv _ => n - (intOf iv).toNat)
      case atStart => exact ⟨0, [], by omega, rfl, hid (World.ownsRow_nil _ _ _ _), hid (OpsHeld.nil _ _), by simp, HV, hid (Below.refl _ _)⟩
      case round =>
        clear HV
        obtain ⟨k, rs, hk, rfl, HO, HH, hrl, HV, HBw⟩ := hrel
        obtain ⟨lA, lc, rfl, hlA, hlc⟩ := own_slice HO.out
        have HlA := hid (fun a ha => (hlA a ha).2.1)
        clear hlA hlc
        by_cases hlt : k < n
        · obtain ⟨b, off, rfl, hb, hcn⟩ := nm_cell HrN.out (by omega)
          obtain ⟨db, doff, rfl, hdb, hcd⟩ := dt_cell HrD.out (by omega)
          have q0 := hcn k (by omega)
          have q1 := hcd k (by omega)
          have hfc := HFn.out acc[k] (List.getElem_mem _)
          have hdk := HV.out
          rw [List.drop_eq_getElem_cons (show k < acc.length by omega)] at hdk
          obtain ⟨⟨N, D⟩, hc⟩ : ∃ c, acc[k] = c := ⟨_, rfl⟩
          rw [hc] at q0 q1 hfc hdk
          simp only at q0 q1 hfc
          have c0 := (HBw.out.cell (p := ⟨b, off + k, none⟩) hb).trans q0
          have c1 := (HBw.out.cell (p := ⟨db, doff + k, none⟩) hdb).trans q1
          have HD := hid hdk
          have i1 : (0 : Int) ≤ (k : Int) := by omega
          have i2 : (k : Int) < (n : Int) := by omega
          have k0 : 0 < (strOf N).size := by rw [strOf_size]; omega
          have k1 : (0 : Int) < ((strOf N).size : Int) := by omega
          have b0 := byte_in (D := N) k0
          obtain ⟨x0, hx0⟩ : ∃ x, N.getD 0 0 = x := ⟨_, rfl⟩
          rw [hx0] at b0
          have Hx0 := hid hx0
          clear hc hdk HV q0 q1 hcn hcd hx0
          by_cases hx : x0 = 88
          · have hx8 : x0.toNat = 88 := by rw [hx]; rfl
            have HN2 := hid (HD.out.trans (congrArg readEnd (opsGo_x (c := (N, D)) (by rw [← hx]; exact Hx0.out))))
            clear hx
            go_wp2_with fail
            go_roundw
            case rel => exact ⟨k + 1, rs, by omega, by go_num, HO, HH, by omega, HN2, HBw⟩
            case measure => simp [intOf]; omega
          · have hx8 : x0.toNat ≠ 88 := fun e => hx (by rw [← UInt8.toNat_inj]; exact e)
            have HXE := hid (show N.getD 0 0 ≠ 88 by rw [Hx0.out]; exact hx)
            clear hx
            go_upto_region 18 with fail
            have hsm := opOf_sm N D
            have HBAD := hid (fun hh => HD.out.trans (congrArg readEnd (opsGo_bad (c := (N, D)) HXE.out hh)))
            have HOK := hid (fun hh => HD.out.trans (congrArg readEnd (opsGo_ok (c := (N, D)) HXE.out hh)))
            have C1 := hid (fun W (h : Below wr.heap.size wr W) => ropof_any N D W (by omega) (HN.out.below (bnext HB.out (bnext HBw.out h))))
            unfold RetOpN at C1
            obtain ⟨⟨⟨xk, xi, xa, xb, xc, xd, ⟨xw, xh, xl⟩⟩, xf⟩, hX⟩ : ∃ X, opOf N D = X := ⟨_, rfl⟩
            have HBAD2 := HBAD.out
            have HOK2 := HOK.out
            simp only [hX] at HBAD2 HOK2 hsm C1
            have HBad := hid HBAD2
            have HOk := hid HOK2
            have hbz := Nat.lt_of_lt_of_le hb HBw.out.size
            have hdbz := Nat.lt_of_lt_of_le hdb HBw.out.size
            have KS := hid (fun W (h : Below wr.heap.size wr W) => (⟨(h.cell (p := ⟨b, off + k, none⟩) hbz).trans c0, (h.cell (p := ⟨db, doff + k, none⟩) hdbz).trans c1⟩ : W.cell? ⟨b, off + k, none⟩ = some (.string (strOf N)) ∧ W.cell? ⟨db, doff + k, none⟩ = some (.string (strOf D))))
            clear hX HBAD HOK HBAD2 HOK2 HD k0 k1 b0 hx8 Hx0 HXE
            go_cut [12, 13] (fun t f wi => NewOpR wr ⟨xk, xi, xa, xb, xc, xd, ⟨xw, xh, xl⟩⟩ t wi ∧ f = .int .i64 (xf : Int))
            case first =>
              clear HrN HrD HFn HBad HOk HO HH HlA HBw HB HN hlen
              have HBW : Below wr.heap.size wr wr := Below.refl _ _
              go_region_held3 (fun W => W.cell? ⟨b, off + k, none⟩ = some (.string (strOf N)) ∧ W.cell? ⟨db, doff + k, none⟩ = some (.string (strOf D))) (first | with_reducible exact KS.out _ HBW | with_reducible exact KS.out _ (by have hB := HBW; (repeat (first | with_reducible exact hB | with_reducible refine Below.alloc ?_ (by have := hB.size; simp; try omega) _ | with_reducible refine Below.setCell ?_ (by have := hB.size; simp; try omega) _ | with_reducible refine below_drewN ?_ _ | with_reducible refine Below.drew ?_))) | go_keep)
                ((go_at_call 11; (with_reducible refine (C1.out _ (by first | with_reducible exact HBW | (have hB := HBW; (repeat (first | with_reducible exact hB | with_reducible refine Below.alloc ?_ (by have := hB.size; simp; try omega) _ | with_reducible refine Below.setCell ?_ (by have := hB.size; simp; try omega) _ | with_reducible refine below_drewN ?_ _ | with_reducible refine Below.drew ?_))))).mono ?_); rintro e w' ⟨pA, pc, rfl, hpx, hnew, hbw⟩; have hbz2 := hbw.size; (try simp at hbz2); have HBW : Below wr.heap.size wr w' := bnext (by have hB := HBW; (repeat (first | with_reducible exact hB | with_reducible refine Below.alloc ?_ (by have := hB.size; simp; try omega) _ | with_reducible refine Below.setCell ?_ (by have := hB.size; simp; try omega) _ | with_reducible refine below_drewN ?_ _ | with_reducible refine Below.drew ?_))) hbw; have hbW := hbw; obtain ⟨hbc, hbf⟩ := bcell hbw))
              all_goals (go_wp2_with fail)
              all_goals go_meet
              all_goals (have hnew1 : ∀ x, pA = some x → wr.heap.size ≤ x.block := fun x hx => by have h9 := hnew x hx; simp at h9; omega)
              all_goals (have h0 : (wr.alloc (.cells #[.int .i64 0, .int .i64 0, .int .i64 0, .int .i64 0, .int .i64 0, .int .i64 0, .int .i64 0, .int .i64 0, .slice none 0 0] 26)).drew.heap[wr.heap.size]? = some (.cells #[.int .i64 0, .int .i64 0, .int .i64 0, .int .i64 0, .int .i64 0, .int .i64 0, .int .i64 0, .int .i64 0, .slice none 0 0] 26) := heap_alloc_new wr _)
              all_goals (first
                | (have hzz : w'.heap[wr.heap.size]? = some (.cells #[.int .i64 0, .int .i64 0, .int .i64 0, .int .i64 0, .int .i64 0, .int .i64 0, .int .i64 0, .int .i64 0, .slice none 0 0] 26) := by with_reducible exact blk_keep h0 hbW
                   have hne9 : ∀ x, pA = some x → x.block ≠ wr.heap.size := fun x hx => by have h9 := hnew x hx; simp at h9; omega
                   with_reducible exact ⟨newop_set HBW (Nat.le_refl _) hzz hpx hnew1 hne9, rfl⟩)
                | with_reducible exact ⟨newop_new HBW hpx hnew1, rfl⟩)
            case rest =>
              obtain ⟨⟨g, pA, pc, rfl, hbox, hpx, hnew, hb4⟩, rfl⟩ := hcut
              simp only at hbox hpx
              have HX5 := hid hbox
              have HPX5 := hid hpx
              have HNew := hid hnew
              have HO5 := hid (own_keep HO.out hb4)
              have HH5 := hid (HH.out.below hb4)
              have HB5 := hid (bnext HBw.out hb4)
              have hz34 := hb4.size
              obtain ⟨W5, rfl⟩ : ∃ W5 : World, W5 = wc := ⟨_, rfl⟩
              clear hbox hpx hnew hb4 HO HH HBw c0 c1 KS C1
              by_cases hxf : xf = 0
              case neg =>
                have hV := hid (HBad.out hxf)
                have HR := hid ((hV.out.trans (readEnd_bad hxf)))
                have hpos : (0 : Int) < (xf : Int) := by omega
                clear hxf hV
                go_wp2_with fail
                go_ret2
                exact retOpsN_bad (f := xf) HR.out (bnext HB.out HB5.out)
              have HN2 := hid (HOk.out hxf)
              rw [hxf]
              clear hxf HBad HOk
              obtain ⟨c0, c1, c2, c3, c4, c5, c6, c7, c8⟩ := OpBoxAt.cells HX5.out
              have hown5 := HO5.out
              go_wp2_with (at_builtin; refine wpList_append_own_at _ rfl _ _ 46 rfl wo.heap.size 26 i0 (.agg #[.int .i64 0, .int .i64 0, .int .i64 0, .int .i64 0, .int .i64 0, .int .i64 0, .int .i64 0, .int .i64 0, .slice none 0 0]) 9 88 Tryd.underlying46 hi hz0 hz1 hz2 rfl (by decide) _ _ _ rfl (hown5.alloc _) ⟨W5.heap.size, 0, none⟩ 1 1 (opCells ⟨⟨xk, xi, xa, xb, xc, xd, ⟨xw, xh, xl⟩⟩, pA, xl.length, pc⟩) rfl rfl ?c1 ?c2 ?c3 ?c4 ?c5 ?_)
              case c1 => exact new_cells W5 #[.int .i64 xk, .int .i64 xi, .int .i64 xa, .int .i64 xb, .int .i64 xc, .int .i64 xd, .int .i64 xw, .int .i64 xh, .slice pA xl.length pc] 26
              case c2 => intro u hu; simp [opCells] at hu; rcases hu with rfl | rfl | rfl | rfl | rfl | rfl | rfl | rfl | rfl <;> rfl
              case c3 => unfold maxLen; omega
              case c4 => omega
              case c5 => have := HB5.out.size; simp; omega
              intro v' w6 hown' hgrow _ hvo
              obtain ⟨R, hR⟩ : ∃ R : FAt FOp, R = ⟨⟨xk, xi, xa, xb, xc, xd, ⟨xw, xh, xl⟩⟩, pA, xl.length, pc⟩ := ⟨_, rfl⟩
              have HO6 : Hid (w6.ownsRow wo.heap.size 26 9 v' (rs ++ [R]).length ((rs ++ [R]).flatMap opCells)) := hid (by
                rw [hR, List.length_append, List.flatMap_append]
                simpa using hown')
              have hal : Below W5.heap.size W5 (W5.alloc (.cells #[.int .i64 xk, .int .i64 xi, .int .i64 xa, .int .i64 xb, .int .i64 xc, .int .i64 xd, .int .i64 xw, .int .i64 xh, .slice pA xl.length pc] 26)) := (Below.refl _ _).alloc (Nat.le_refl _) _
              have HH6 : Hid (OpsHeld w6 v' (rs ++ [R])) := hid (by
                refine (HH5.out.below hal).put (r := R) ?_ ?_ ?_ hgrow (by simpa using hvo)
                · rw [hR]; exact HPX5.out.below hal
                · rw [hR]; exact hsm.1
                · rw [hR]
                  intro h0 a ha e
                  have h1 := HNew.out a ha
                  have h2 := HlA.out
                  cases lA with
                  | none => simp [Value.ownBlock] at e
                  | some la =>
                    simp [Value.ownBlock] at e
                    have := h2 la rfl
                    omega)
              have HB6 := hid ((HB5.out.alloc HB5.out.size (.cells #[.int .i64 xk, .int .i64 xi, .int .i64 xa, .int .i64 xb, .int .i64 xc, .int .i64 xd, .int .i64 xw, .int .i64 xh, .slice pA xl.length pc] 26)).grown hgrow (by have := HB5.out.size; simp; omega) (fun g hg => (HO5.out.lt g hg).1))
              have HN3 : Hid (bookOf S = readEnd (opsGo (acc.drop (k + 1)) (datO (rs ++ [R])))) := hid (by rw [HN2.out, hR]; simp [datO])
              clear hown' hgrow hvo hal hown5 hR HO5 HH5 HB5 HPX5 HN2
              go_wp2_with fail
              go_roundw
              case rel => exact ⟨k + 1, rs ++ [R], by omega, by go_num, HO6, HH6, by simp; omega, HN3, HB6⟩
              case measure => simp [intOf]; omega
        · obtain rfl : k = n := by omega
          have hE := HV.out
          rw [List.drop_of_length_le (by omega), opsGo] at hE
          have HE := hid hE
          have hops := ops_own HO.out rfl HH.out
          have hs100 := fun r hr => (HH.out r hr).2.1
          have HOps := hid hops
          have HS1 := hid hs100
          clear hE HV hops hs100
          go_wp2_with fail
          refine (rbookfault_any lA rs.length lc rs wr HOps.out HS1.out (by omega)).mono ?_
          rintro e w7 ⟨rfl, hb7⟩
          have HB7 := hid (bnext HB.out (bnext HBw.out hb7))
          by_cases hbf : bookFault (datO rs) = 0
          · have HR := hid (HE.out.trans (readEnd_ok hbf))
            rw [hbf]
            clear hbf
            go_wp2_with fail
            go_ret2
            rw [HR.out]
            exact ⟨lA, rs.length, lc, rs, rfl, HOps.out.below hb7, rfl, HS1.out, HB7.out⟩
          · have HR := hid (HE.out.trans (readEnd_book hbf))
            have hpos : (0 : Int) < ((bookFault (datO rs) : Nat) : Int) := by omega
            clear hbf
            generalize bookFault (datO rs) = F at *
            go_wp2_with fail
            go_ret2
            exact retOpsN_bad (f := F) HR.out HB7.out
    · have hemp := strOf_empty hL
      have hemp' : ¬ (strOf L).toList = [] := by rw [strOf_list']; exact hL
      by_cases hm : (acc.length : Int) = 120
      · have hm' : ((acc.length : Int) == 120) = true := by simpa using hm
        have hall := HI.out.many hL hm
        have HV := hid (HBC.out (by rw [hall]; simp))
        rw [hall] at HV
        have HR := hid HV.out
        clear HI HNo HDo hm hL hall HV
        go_wp2_with fail
        go_ret2
        exact retOpsN_bad (f := 2) HR.out HB.out
      · have hm' : ((acc.length : Int) == 120) = false := by simpa using hm
        go_wp2_with fail
        refine (rfirst_any _ _ (by rw [strOf_size]; omega)).mono ?_
        rintro e w1 ⟨rfl, hb⟩
        rw [strOf_data']
        unfold firstVN
        have HB1 := hid (bnext HB.out hb)
        have HN1 := hid (own_keep HNo.out hb)
        have HD1 := hid (own_keep HDo.out hb)
        clear HB HNo HDo hb
        by_cases hf : firstF L = 0
        · have HI2 := hid (HI.out.step hL hm hf)
          have hlr := firstR_len hf
          rw [hf]
          clear HI hL hm hf hemp hemp'
          generalize firstA L = LA at *
          generalize firstD L = LD at *
          generalize firstR L = LR at *
          go_wp2_with (at_builtin; refine wpList_append_own_at _ rfl _ _ 72 rfl w.heap.size 9 s0 (.string ⟨#[]⟩) 1 16 Tryd.underlying72 hsi hs0 hs1 hs2 rfl (by decide) _ _ _ rfl (HN1.out.alloc _) ⟨w1.heap.size, 0, none⟩ 1 1 [.string (strOf LA)] rfl rfl ?c1 ?c2 ?c3 ?c4 ?c5 ?_)
          case c1 => exact new_cells w1 #[.string (strOf LA)] 9
          case c2 => intro u hu; simp at hu; subst hu; rfl
          case c3 => unfold maxLen; omega
          case c4 => omega
          case c5 => have := HB1.out.size; simp; omega
          intro nv w2 hown hgrow _ hvo
          have hal1 : Below w1.heap.size w1 (w1.alloc (.cells #[.string (strOf LA)] 9)) := (Below.refl _ _).alloc (Nat.le_refl _) _
          have hvo' : nv.ownBlock = (Value.slice nA acc.length nc).ownBlock ∨ nv.ownBlock = some (w1.alloc (.cells #[.string (strOf LA)] 9)).heap.size := by simpa using hvo
          have HN2 : Hid (w2.ownsRow w.heap.size 9 1 nv (acc ++ [(LA, LD)]).length (nmC (acc ++ [(LA, LD)]))) := hid (by
            rw [List.length_append]; unfold nmC; rw [List.map_append]; exact hown)
          have HD2 := hid (own_beside (own_keep HD1.out hal1) hgrow (fun g h1 h2 => HT.out g h2 h1))
          have HT2 := hid (Twain.put HT.out (own_keep HD1.out hal1) hvo')
          have HB2 := hid ((HB1.out.alloc HB1.out.size (.cells #[.string (strOf LA)] 9)).grown hgrow (by have := HB1.out.size; simp; omega) (fun g hg => (HN1.out.lt g hg).1))
          clear hown hgrow hvo hvo' HN1 HD1 HT hal1 HB1
          go_wp2_with (at_builtin; refine wpList_append_own_at _ rfl _ _ 72 rfl w.heap.size 9 s0 (.string ⟨#[]⟩) 1 16 Tryd.underlying72 hsi hs0 hs1 hs2 rfl (by decide) _ _ _ rfl (HD2.out.alloc _) ⟨w2.heap.size, 0, none⟩ 1 1 [.string (strOf LD)] rfl rfl ?c1 ?c2 ?c3 ?c4 ?c5 ?_)
          case c1 => exact new_cells w2 #[.string (strOf LD)] 9
          case c2 => intro u hu; simp at hu; subst hu; rfl
          case c3 => unfold maxLen; omega
          case c4 => omega
          case c5 => have := HB2.out.size; simp; omega
          intro dv w3 hown hgrow _ hvo
          have hal2 : Below w2.heap.size w2 (w2.alloc (.cells #[.string (strOf LD)] 9)) := (Below.refl _ _).alloc (Nat.le_refl _) _
          have hvo' : dv.ownBlock = (Value.slice dA acc.length dc).ownBlock ∨ dv.ownBlock = some (w2.alloc (.cells #[.string (strOf LD)] 9)).heap.size := by simpa using hvo
          have HD3 : Hid (w3.ownsRow w.heap.size 9 1 dv (acc ++ [(LA, LD)]).length (dtC (acc ++ [(LA, LD)]))) := hid (by
            rw [List.length_append]; unfold dtC; rw [List.map_append]; exact hown)
          have HN3 := hid (own_beside (own_keep HN2.out hal2) hgrow (fun g h1 h2 => HT2.out g h1 h2))
          have HT3 := hid (Twain.symm (Twain.put (Twain.symm HT2.out) (own_keep HN2.out hal2) hvo'))
          have HB3 := hid ((HB2.out.alloc HB2.out.size (.cells #[.string (strOf LD)] 9)).grown hgrow (by have := HB2.out.size; simp; omega) (fun g hg => (HD2.out.lt g hg).1))
          clear hown hgrow hvo hvo' HN2 HD2 HT2 hal2 HB2
          go_wp2_with fail
          go_roundw
          case rel => exact ⟨LR, _, rfl, HN3, HD3, HT3, by simp; omega, HI2, HB3⟩
          case measure => simp [strLen, strOf_size]; omega
        · have hall := HI.out.bad hL hm hf
          have HV := hid (HBC.out (by rw [hall]; exact hf))
          rw [hall] at HV
          have HR := hid HV.out
          have hpos : (0 : Int) < ((firstF L : Nat) : Int) := by omega
          clear HI hm hL hall HV hf
          generalize firstF L = F at *
          go_wp2_with fail
          go_ret2
          exact retOpsN_bad (f := F) HR.out HB1.out
end Fb
