/-
  Bytes as a string.
-/
import Derived.Test.YtcahmhenlpplcaaState
import Derived.Lib.BufferRead
import Derived.Laws.BytesString
import Derived.Laws.IdiomStrings
namespace Go.Proofs.Ytcahmhenlpplcaa
open Go.RowKit

def strOf (xs : List Int) : ByteArray := xs.foldl (fun r n => r.push (UInt8.ofNat n.toNat)) ByteArray.empty
theorem run_str {W : World} {ok : Nat → Prop} {v : Value} {xs : List Int} (h : Sees W ok 1 v xs.length (ints .u8 xs)) :
    (convert 28 9 v).run Try.prog W = .ok (.string (strOf xs)) W := by
  obtain ⟨A, c, rfl, _, _, _, h4⟩ := h
  cases A with
  | none =>
    have h0 : xs.length = 0 := by
      rcases Nat.eq_zero_or_pos xs.length with h | hp
      · exact h
      · obtain ⟨g, off, hA, _⟩ := h4 hp
        cases hA
    obtain rfl : xs = [] := List.eq_nil_of_length_eq_zero h0
    exact Lib.run_convert_nil_bytes W 28 9 5 c Try.underlying28 Try.underlying5 Try.underlying9
  | some a =>
    rw [run_convert_bytes_string W 28 9 5 (some a) xs.length c Try.underlying28 Try.underlying5 Try.underlying9]
    have hl := run_loadCells_list (P := Try.prog) W a (ints .u8 xs) (fun j u hj => by
      have hp : 0 < xs.length := by
        have := (List.getElem?_eq_some_iff.1 hj).1
        rw [ints_len] at this
        omega
      obtain ⟨g, off, hA, _, _, hc⟩ := h4 hp
      injection hA with hA
      subst hA
      rw [Addr.add_lit]
      exact hc j u hj)
    rw [ints_len] at hl
    exact run_bytesToString W a xs.length c xs hl
end Go.Proofs.Ytcahmhenlpplcaa
