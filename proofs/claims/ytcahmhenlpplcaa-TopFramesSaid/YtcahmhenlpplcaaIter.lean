/-
  The queue of frames: the iterator.
-/
import Derived.Test.YtcahmhenlpplcaaSpec
import Derived.Test.YtcahmhenlpplcaaRange
namespace Go.Proofs.Ytcahmhenlpplcaa
open Go.RowKit
attribute [local go_sem] Oper.semAt_some

theorem oqAll1_in {n : Nat} (l B : Nat) (r : Value) (xs : List Int) (hl : xs.length ≤ 1048576) (I J : Nat → World → Prop)
    (hI : ∀ k W, I k W → Blk W B 47 #[r] ∧ Row W 3 1 r xs.length (ints .i64 xs))
    (hJ : ∀ k W, J k W → I k W)
    (hY : ∀ k W, J k W → k < xs.length → YieldAt Fence.wide (n - 1) Try.prog l #[.int .i64 k, .int .i64 (xs.getD k 0)] W fun e W' => e = .returned (.bool true) ∧ J (k + 1) W')
    (W : World) (h0 : J 0 W) :
    CallsIn Fence.wide n Try.prog 50 #[.func (.yield l) #[] #[], .pointer (some ⟨B, 0, none⟩)] W fun e W' => (∃ v, e = .returned v) ∧ J xs.length W' := by
  obtain ⟨hB, hR⟩ := hI _ _ (hJ _ _ h0)
  obtain ⟨A, c, rfl⟩ := hR.slice
  have hb := hB.cell 0
  have HI := Lib.hid hI
  have HJ := Lib.hid hJ
  have HY := Lib.hid hY
  have H0 := Lib.hid h0
  clear hI hJ hY hB hR h0
  refine callsIn_of_wp Try.func50 rfl trivial ?_ rfl
  simp only [Try.ntmps50, List.size_toArray, List.length_cons, List.length_nil, Nat.reduceAdd, Nat.reduceSub, Array.replicate_succ, Array.replicate_zero, List.push_toArray, List.append_toArray, List.nil_append, List.cons_append]
  gi_wp2
  refine wpIn_scope_wide ?_
  gi_wp2
  refine wpIn_label ?_
  gi_wp2
  gi_loopw [7] (fun i wr => ∃ k : Nat, k ≤ xs.length ∧ i = .int .i64 k ∧ J k wr) (fun i _ => xs.length - (intOf i).toNat)
  case atStart => exact ⟨0, Nat.zero_le _, rfl, H0.out⟩
  case round =>
    obtain ⟨k, hk, rfl, hj⟩ := hrel
    by_cases hlt : k < xs.length
    · obtain ⟨hB2, hR2⟩ := HI.out _ _ (HJ.out _ _ hj)
      obtain ⟨g, off, c', hA, hc, _, _, hcell⟩ := hR2.cells (by omega)
      injection hA with hA _ hcc
      subst hcc
      subst hA
      have q0 : wr.cell? ⟨g, off + k, none⟩ = some (.int .i64 (xs.getD k 0)) := hcell k _ (by rw [ints_get, List.getD_eq_getElem?_getD, List.getElem?_eq_getElem hlt]; rfl)
      have hYk := HY.out k wr hj hlt
      obtain ⟨x, hx⟩ : ∃ x, xs.getD k 0 = x := ⟨_, rfl⟩
      rw [hx] at q0 hYk
      obtain ⟨fn, tmps, assign, body, hy, hr⟩ := hYk
      have HR := Lib.hid hr
      clear hB2 hR2 hcell hr
      gi_wp2
      refine ⟨fun h => by simp [Fence.wide] at h, ?_⟩
      refine HR.out.mono ?_
      rintro e W3 ⟨rfl, hj3⟩
      have HJ3 := Lib.hid hj3
      clear hj3
      gi_wp2
      go_roundw
      case rel => exact ⟨k + 1, by omega, by go_num, HJ3.out⟩
      case measure => simp [intOf]; omega
    · gi_wp2
      rw [Exit.noGoto_normal]
      go_end0
      obtain rfl : k = xs.length := by omega
      exact ⟨⟨_, rfl⟩, hj⟩
end Go.Proofs.Ytcahmhenlpplcaa
