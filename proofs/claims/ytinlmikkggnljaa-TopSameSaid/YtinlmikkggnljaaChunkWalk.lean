/- chunk.Sum, Name and the reference's two: they return what the plain laws of chunks say. Conditions: a text is no longer than a Go text may be. -/
import Derived.Test.YtinlmikkggnljaaChunkLaw
import Derived.Test.YtinlmikkggnljaaErr
namespace Fb
open Go Go.Proofs Go.RowKit
theorem bs_len (s : ByteArray) : s.data.toList.length = s.size := by simp
theorem sum_takeB (s : ByteArray) (k : Nat) (h : k < s.size) : (sumL (s.data.toList.take (k + 1))).1 = ((sumL (s.data.toList.take k)).1 + s[k].toNat) % 251 ∧ (sumL (s.data.toList.take (k + 1))).2 = ((sumL (s.data.toList.take k)).2 + ((sumL (s.data.toList.take k)).1 + s[k].toNat) % 251) % 251 :=
  sumL_take s.data.toList k (by simpa using h)
def sumV (s : Bs) : Value := .tuple #[.int .i64 (sumL s).1, .int .i64 (sumL s).2]
theorem ret_eq' {a b : Value} (h : b = a) : Ending.returned a = .returned b := by rw [h]
end Fb
