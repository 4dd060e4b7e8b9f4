/- chunk.First and the reference's: they return what the plain law of chunks says. Condition: at most a million bytes. -/
import Derived.Test.YtinlmikkggnljaaChunkBytes
import Derived.RegionTactic
import Derived.Deep.RegionWith
namespace Fb
open Go Go.Proofs Go.RowKit
def firstV (L : Bs) : Value := .tuple #[.agg #[.string (strOf (firstA L)), .string (strOf (firstD L))], .string (strOf (firstR L)), errV (firstF L)]
def firstVN (L : Bs) : Value := .tuple #[.string (strOf (firstA L)), .string (strOf (firstD L)), .string (strOf (firstR L)), .int .i64 (firstF L)]
theorem firstV_bad {L : Bs} {f : Nat} (h : firstF L = f) (hf : f ≠ 0) : firstV L = .tuple #[.agg #[.string ByteArray.empty, .string ByteArray.empty], .string ByteArray.empty, errV f] := by
  unfold firstV; rw [h, firstA_bad (by rw [h]; exact hf), firstD_bad (by rw [h]; exact hf), firstR_bad (by rw [h]; exact hf)]; rfl
theorem firstVN_bad {L : Bs} {f : Nat} (h : firstF L = f) (hf : f ≠ 0) : firstVN L = .tuple #[.string ByteArray.empty, .string ByteArray.empty, .string ByteArray.empty, .int .i64 f] := by
  unfold firstVN; rw [h, firstA_bad (by rw [h]; exact hf), firstD_bad (by rw [h]; exact hf), firstR_bad (by rw [h]; exact hf)]; rfl
theorem extract_list (s : ByteArray) (a b : Nat) : (s.extract a b).data.toList = (s.data.toList.take b).drop a := by
  simp [ByteArray.data_extract, List.extract_eq_take_drop]
  rw [List.drop_take]
theorem extract_strOf (l : Bs) (a b : Nat) : (strOf l).extract a b = strOf ((l.take b).drop a) := by
  rw [← strOf_self' ((strOf l).extract a b), extract_list, strOf_data']
theorem get_byte (s : ByteArray) (k : Nat) (h : k < s.size) : s.data.toList.getD k 0 = s[k] := by
  simp only [List.getD_eq_getElem?_getD]
  rw [List.getElem?_eq_getElem (by simpa using h)]
  rfl
theorem results_four {fn : Func} {t u v x : Tmp} (h : fn.results = #[.tmp t, .tmp u, .tmp v, .tmp x]) (tmps : Array Value) (P : Program) (w : World) :
    (results fn tmps).run P w = .ok (.tuple #[tmps.getD t undef, tmps.getD u undef, tmps.getD v undef, tmps.getD x undef]) w := by simp [results, h]
end Fb
