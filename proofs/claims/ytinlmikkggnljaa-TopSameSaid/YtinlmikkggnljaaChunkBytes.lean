/- chunk.Bytes and the reference's: they return what the plain law of chunks says. Conditions: a text is no longer than a Go text may be. -/
import Derived.Test.YtinlmikkggnljaaChunkWalk
import Derived.Test.YtinlmikkggnljaaPackWalk2
namespace Fb
open Go Go.Proofs Go.RowKit
theorem strOf_data' (l : Bs) : (strOf l).data.toList = l := by simp [strOf]
theorem strOf_list' (l : Bs) : (strOf l).toList = l := by unfold strOf; exact ByteArray.toList_mk l
theorem strOf_self' (s : ByteArray) : strOf s.data.toList = s := by unfold strOf; simp
theorem str_lists (s : ByteArray) : ∃ l : Bs, s = strOf l := ⟨_, (strOf_self' s).symm⟩
theorem str_two (a b : Int) (c0 c1 : UInt8) (ha : a = (c0.toNat : Int)) (hb : b = (c1.toNat : Int)) (w : World) :
    (convert 75 9 (.slice (some ⟨w.heap.size, 0, none⟩) 2 2)).run Try.prog (w.alloc (.cells #[.int .u8 a, .int .u8 b] 5)) = .ok (.string (strOf [c0, c1])) (w.alloc (.cells #[.int .u8 a, .int .u8 b] 5)) := by
  subst ha hb
  refine run_string_row ⟨by simp [byteCells], fun _ => ⟨_, 0, rfl, by simp, fun j u hu => ?_⟩⟩ Try.underlying75 Try.underlying5 Try.underlying9
  have := cell_two_new w (.int .u8 (c0.toNat : Int)) (.int .u8 (c1.toNat : Int)) 5 j u (by simpa [byteCells] using hu)
  by_cases hj : j = 0
  · subst hj; simpa [Addr.add] using this
  · simpa [Addr.add, hj] using this
def chunkV (n d : Bs) : Value := .tuple #[.string (strOf (chunkB n d)), errV (chunkF n d)]
def chunkN (n d : Bs) : Value := .tuple #[.string (strOf (chunkB n d)), .int .i64 (chunkF n d)]
theorem chunkV_bad {n d : Bs} {f : Nat} (h : chunkF n d = f) (hf : f ≠ 0) : chunkV n d = .tuple #[.string ByteArray.empty, errV f] := by
  unfold chunkV; rw [h, chunkB_bad (by rw [h]; exact hf)]; rfl
theorem chunkN_bad {n d : Bs} {f : Nat} (h : chunkF n d = f) (hf : f ≠ 0) : chunkN n d = .tuple #[.string ByteArray.empty, .int .i64 f] := by
  unfold chunkN; rw [h, chunkB_bad (by rw [h]; exact hf)]; rfl
theorem chunkV_ok {n d : Bs} {c0 c1 : UInt8} (h : chunkF n d = 0) (h0 : UInt8.ofNat d.length = c0) (h1 : UInt8.ofNat (d.length / 256) = c1) :
    chunkV n d = .tuple #[.string (strOf (n ++ c0 :: c1 :: (d ++ [UInt8.ofNat (sumL (n ++ c0 :: c1 :: d)).1, UInt8.ofNat (sumL (n ++ c0 :: c1 :: d)).2]))), .nilIface] := by
  unfold chunkV; rw [h, chunkB_ok h, errV_zero, ← h0, ← h1]; simp [chunkS, bodyL]
theorem chunkN_ok {n d : Bs} {c0 c1 : UInt8} (h : chunkF n d = 0) (h0 : UInt8.ofNat d.length = c0) (h1 : UInt8.ofNat (d.length / 256) = c1) :
    chunkN n d = .tuple #[.string (strOf (n ++ c0 :: c1 :: (d ++ [UInt8.ofNat (sumL (n ++ c0 :: c1 :: d)).1, UInt8.ofNat (sumL (n ++ c0 :: c1 :: d)).2]))), .int .i64 0] := by
  unfold chunkN; rw [h, chunkB_ok h, ← h0, ← h1]; simp [chunkS, bodyL]
end Fb
