/- chunk.All returns what the plain law of chunks says. Condition: at most a million bytes. -/
import Derived.Test.YtcmbbicemddggaaDoorChunkBytes
set_option linter.unusedSimpArgs false
set_option linter.unusedVariables false
namespace Fb
open Go Go.Proofs Go.RowKit
theorem news_alloc (w : World) (cs : Array Value) (t : TypeId) : ∀ j u, cs.toList[j]? = some u → (w.alloc (.cells cs t)).cell? ((⟨w.heap.size, 0, none⟩ : Addr).add j) = some u := by
  intro j u hj
  have h := cell_of_row (w.alloc (.cells cs t)) w.heap.size j cs t (0, 0) (heap_alloc_new w _)
  have e : cs[j]? = some u := by rw [← hj]; simp
  rw [e] at h
  by_cases h0 : j = 0
  · subst h0; simpa [Addr.add] using h
  · simpa [Addr.add, h0] using h
theorem info_chunk : (Tryd.prog.info? 37).map (fun i => (i.zero, i.size, i.bytes)) = some (some (.agg #[.string ⟨#[]⟩, .string ⟨#[]⟩]), 2, 32) := by kernel_rfl
theorem own_below {w w1 : World} {base : Nat} {e : TypeId} {size n : Nat} {v : Value} {xs : List Value} (h : w.ownsRow base e size v n xs) (hb : Below w.heap.size w w1) : w1.ownsRow base e size v n xs := by
  obtain ⟨h1, h2⟩ := h
  refine ⟨h1, ?_⟩
  rcases h2 with h2 | ⟨g, cap, cur, hv, hg, hh, r⟩
  · exact Or.inl h2
  · exact Or.inr ⟨g, cap, cur, hv, hg, by rw [hb.block g (Array.getElem?_eq_some_iff.1 hh).1]; exact hh, r⟩
def chCell (p : Bs × Bs) : List Value := [.string (strOf p.1), .string (strOf p.2)]
/-- the slice (A, n) reads as the chunks l -/
def Chunks (w : World) (A : Option Addr) (n : Nat) (l : List (Bs × Bs)) : Prop := l.length = n ∧ Row w A n 2 (l.flatMap chCell)
/-- what chunk.All ends in: chunks l and the error f -/
def RetAll (l : List (Bs × Bs)) (f : Nat) (w : World) (e : Ending) (w' : World) : Prop := ∃ A c, e = .returned (.tuple #[.slice A l.length c, errV f]) ∧ Chunks w' A l.length l ∧ Below w.heap.size w w'
theorem RetAll.bad {l : List (Bs × Bs)} {f g : Nat} {w w' : World} (h : (l, f) = ([], g)) (hb : Below w.heap.size w w') : RetAll l f w (.returned (.tuple #[.slice none 0 0, errV g])) w' := by
  obtain ⟨rfl, rfl⟩ := Prod.mk.inj h
  exact ⟨none, 0, rfl, ⟨rfl, Row.none_ _ _ _⟩, hb⟩
def strLen : Value → Nat
  | .string s => s.size
  | _ => 0
theorem strOf_empty {L : Bs} (h : L ≠ []) : (strOf L).toList.isEmpty = false := by
  rw [strOf_list']
  cases L with
  | nil => exact absurd rfl h
  | cons a l => rfl
set_option maxRecDepth 100000 in
set_option maxHeartbeats 800000 in
theorem all_any (S : Bs) (most : Int) (w : World) (hs : S.length ≤ 1000000) :
    Calls Tryd.prog 21 #[.string (strOf S), .int .i64 most] w (RetAll (allL S most).1 (allL S most).2 w) := by
  obtain ⟨i0, hi, hz0, hz1, hz2⟩ := info_parts info_chunk
  go_enter Tryd.func21, Tryd.ntmps21
  go_wp2
  go_loopw [0, 6] (fun s l wr => ∃ (L : Bs) (acc : List (Bs × Bs)), s = .string (strOf L) ∧ wr.ownsRow w.heap.size 37 2 l acc.length (acc.flatMap chCell) ∧ 8 * acc.length + L.length ≤ S.length ∧ AllInv S most L acc ∧ Below w.heap.size w wr) (fun s _ _ => strLen s)
  case atStart => exact ⟨S, [], rfl, World.ownsRow_nil _ _ _ _, by simp, AllInv.start _ _, Below.refl _ _⟩
  case round =>
    obtain ⟨L, acc, rfl, hown, hlen, HI, hbel⟩ := hrel
    obtain ⟨A, c, rfl, hA, hc⟩ := own_slice hown
    by_cases hL : L = []
    · have hd := HI.done hL
      have HD := hid hd
      have hemp : (strOf L).toList = [] := by rw [strOf_list', hL]
      have hrow := Row.of_own hown
      clear HI hown hA hd
      subst hL
      go_wp2_with fail
      go_ret2
      rw [HD.out]
      exact ⟨A, c, rfl, ⟨rfl, hrow⟩, hbel⟩
    · have hemp := strOf_empty hL
      have hemp' : ¬ (strOf L).toList = [] := by rw [strOf_list']; exact hL
      by_cases hm : (acc.length : Int) = most
      · have hm' : ((acc.length : Int) == most) = true := by simpa using hm
        have HV := hid (HI.many hL hm)
        clear HI hown hA hm hL
        go_wp2_with fail
        go_ret2
        exact RetAll.bad HV.out hbel
      · have hm' : ((acc.length : Int) == most) = false := by simpa using hm
        go_wp2_with fail
        refine (first_any _ _ (by rw [strOf_size]; omega)).mono ?_
        rintro e w1 ⟨rfl, hb⟩
        rw [strOf_data']
        unfold firstV
        have hbel1 := bnext hbel hb
        have hown1 := own_below hown hb
        clear hbel hown hb hA
        by_cases hf : firstF L = 0
        · have HI' := HI.step hL hm hf
          have hlr := firstR_len hf
          rw [hf, errV_zero]
          clear HI hL hm hf hemp hemp'
          generalize firstA L = LA at *
          generalize firstD L = LD at *
          generalize firstR L = LR at *
          go_wp2_with (at_builtin; refine wpList_append_own _ rfl _ _ 66 rfl w.heap.size 37 i0 (.agg #[.string ⟨#[]⟩, .string ⟨#[]⟩]) 2 32 Tryd.underlying66 hi hz0 hz1 hz2 rfl (by decide) _ _ _ rfl ((hown1.alloc _).alloc _) ⟨w1.heap.size + 1, 0, none⟩ 1 1 [.string (strOf LA), .string (strOf LD)] rfl rfl ?c1 ?c2 ?c3 ?c4 ?c5 ?_)
          case c1 =>
            have h := news_alloc (w1.alloc (.cells #[.string (strOf LA), .string (strOf LD)] 37)) #[.string (strOf LA), .string (strOf LD)] 37
            rw [World.size_alloc] at h
            exact h
          case c2 => intro u hu; simp at hu; rcases hu with rfl | rfl <;> rfl
          case c3 => unfold maxLen; omega
          case c4 => omega
          case c5 => have := hbel1.size; simp; omega
          intro v' w2 hown' hgrow _
          have HO : w2.ownsRow w.heap.size 37 2 v' (acc ++ [(LA, LD)]).length ((acc ++ [(LA, LD)]).flatMap chCell) := by
            rw [List.length_append, List.flatMap_append]; exact hown'
          have hbel2 : Below w.heap.size w w2 := ((hbel1.alloc hbel1.size _).alloc (by have := hbel1.size; simp; omega) _).grown hgrow (by have := hbel1.size; simp; omega) (fun g hg => (hown1.lt g hg).1)
          clear hown' hgrow hown1 hbel1
          go_wp2_with fail
          go_roundw
          case rel => exact ⟨LR, _, rfl, HO, by simp; omega, HI', hbel2⟩
          case measure => simp [strLen, strOf_size]; omega
        · have HV := hid (HI.bad hL hm hf)
          rw [errV_pos hf]
          clear HI hm hL
          go_wp2_with fail
          go_ret2
          have hr := RetAll.bad HV.out (hbel1.alloc hbel1.size (.cells #[.string (strOf (firstA L)), .string (strOf (firstD L))] 37))
          rw [errV_pos hf] at hr
          exact hr
end Fb
