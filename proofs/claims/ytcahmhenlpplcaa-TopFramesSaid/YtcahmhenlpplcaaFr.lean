/-
  Lists of frames that are read: sums of lengths, frames without bytes.
-/
import Derived.Test.YtcahmhenlpplcaaBq
namespace Go.Proofs.Ytcahmhenlpplcaa
open Go.RowKit

/-- A slice of slices of bytes that is read. -/
def Frs (W : World) (ok : Nat → Prop) (v : Value) (fr : List (List Int)) : Prop :=
  ∃ vs, Sees W ok 1 v fr.length vs ∧ ∀ (j : Nat) (x : List Int), fr[j]? = some x → ∃ u, vs[j]? = some u ∧ Sees W ok 1 u x.length (ints .u8 x)
section
variable {W W1 : World} {ok ok' S : Nat → Prop} {v : Value} {fr : List (List Int)}
theorem Frs.nil (W : World) (ok : Nat → Prop) : Frs W ok (.slice none 0 0) [] := ⟨[], Sees.nil _ _ _, fun j x h => by simp at h⟩
theorem Frs.keep (h : Frs W ok v fr) (hk : Keep S W W1) (hn : ∀ k, ok k → k < W.heap.size → ¬ S k) : Frs W1 ok v fr := by
  obtain ⟨vs, h1, h2⟩ := h
  refine ⟨vs, h1.keep hk hn, fun j x hx => ?_⟩
  obtain ⟨u, hu, hs⟩ := h2 j x hx
  exact ⟨u, hu, hs.keep hk hn⟩
theorem Frs.mono (h : Frs W ok v fr) (hn : ∀ k, ok k → k < W.heap.size → ok' k) : Frs W ok' v fr := by
  obtain ⟨vs, h1, h2⟩ := h
  refine ⟨vs, h1.mono hn, fun j x hx => ?_⟩
  obtain ⟨u, hu, hs⟩ := h2 j x hx
  exact ⟨u, hu, hs.mono hn⟩
theorem Frs.drewN (h : Frs W ok v fr) (m : Nat) : Frs (W.drewN m) ok v fr := h
theorem Frs.slice (h : Frs W ok v fr) : ∃ A c, v = .slice A fr.length c := by
  obtain ⟨vs, ⟨A, c, hv, _⟩, _⟩ := h
  exact ⟨A, c, hv⟩
/-- Frame k: its cell, and what it is. -/
theorem Frs.at_ {A : Option Addr} {n c : Nat} (h : Frs W ok (.slice A n c) fr) {k : Nat} (hk : k < fr.length) :
    ∃ g off A' c', A = some ⟨g, off, none⟩ ∧ ok g ∧ W.cell? ⟨g, off + k, none⟩ = some (.slice A' fr[k].length c') ∧ Sees W ok 1 (.slice A' fr[k].length c') fr[k].length (ints .u8 fr[k]) := by
  obtain ⟨vs, ⟨A0, c0, hv, _, _, hl, hc⟩, h2⟩ := h
  injection hv with hA _ _
  subst hA
  obtain ⟨u, hu, hs⟩ := h2 k fr[k] (List.getElem?_eq_getElem hk)
  obtain ⟨g, off, hA, hg, _, hcell⟩ := hc (by omega)
  obtain ⟨A', c', rfl, _⟩ := id hs
  exact ⟨g, off, A', c', hA, hg, hcell k _ hu, hs⟩
end

/-- How many bytes frames have. -/
def total (fr : List (List Int)) : Nat := (fr.map List.length).sum
theorem total_snoc (fr : List (List Int)) (x : List Int) : total (fr ++ [x]) = total fr + x.length := by simp [total]
theorem total_take_le (fr : List (List Int)) (k : Nat) : total (fr.take k) ≤ total fr := by
  have h : total fr = total (fr.take k) + total (fr.drop k) := by
    unfold total
    rw [← List.sum_append, ← List.map_append, List.take_append_drop]
  omega
def hasEmpty (fr : List (List Int)) : Bool := fr.any fun x => x.length == 0

theorem push1_any (x : List Int) (v : Value) (ok : Nat → Prop) (w : World) (h : Sees w ok 1 v x.length (ints .u8 x)) :
    Calls Try.prog 30 #[v] w (Ends fun e w' => e = .returned (.bool (((x.length : Nat) : Int) == 0)) ∧ w = w') := by
  obtain ⟨A, c, rfl, hrest⟩ := h
  clear hrest
  go_enter Try.func30, Try.ntmps30
  go_wp2
  go_ret
  exact ⟨rfl, rfl⟩

theorem bqPush1_any (n : Int) (x : List Int) (v : Value) (ok : Nat → Prop) (w : World) (h : Sees w ok 1 v x.length (ints .u8 x)) (hn : 0 ≤ n) (hn2 : n + x.length ≤ 140737488355328) :
    Calls Try.prog 54 #[.int .i64 n, v] w (Ends fun e w' => e = .returned (.int .i64 (n + (x.length : Int))) ∧ w = w') := by
  obtain ⟨A, c, rfl, hrest⟩ := h
  clear hrest
  go_enter Try.func54, Try.ntmps54
  go_wp2
  go_ret
  exact ⟨rfl, rfl⟩

theorem foldN_any (fr : List (List Int)) (v : Value) (ok : Nat → Prop) (w : World) (h : Frs w ok v fr) (ht : total fr ≤ 140737488355328) (hl : fr.length ≤ 1048576) :
    Calls Try.prog 53 #[.int .i64 0, .func (.func 54) #[] #[], v] w (Ends fun e w' => e = .returned (.int .i64 (total fr)) ∧ w = w') := by
  obtain ⟨A, c, rfl⟩ := h.slice
  have HH := Lib.hid h
  clear h
  go_enter Try.func53, Try.ntmps53
  go_wp2_with fail
  go_loop [0, 8, 11] (fun s _ i => ∃ k : Nat, k ≤ fr.length ∧ i = .int .i64 k ∧ s = .int .i64 (total (fr.take k))) (fun _ _ i => fr.length - (intOf i).toNat)
  case atStart => exact ⟨0, Nat.zero_le _, rfl, rfl⟩
  case round =>
    obtain ⟨k, hk, rfl, rfl⟩ := hrel
    by_cases hlt : k < fr.length
    · obtain ⟨g, off, A', c', rfl, hg, hc, hs⟩ := HH.out.at_ hlt
      have htk := List.take_succ_eq_append_getElem hlt
      have h1 : total (fr.take (k + 1)) = total (fr.take k) + fr[k].length := by rw [htk, total_snoc]
      have h2 := total_take_le fr (k + 1)
      have h3 : ((total (fr.take k) : Nat) : Int) + (fr[k].length : Int) ≤ 140737488355328 := by omega
      have HS := Lib.hid hs
      have H1 := Lib.hid h1
      clear hs htk h1 h2
      go_wp2_with (first | (go_at_call 54; go_must (refine (bqPush1_any _ _ _ _ _ HS.out (by omega) h3).mono ?_; rintro e w' ⟨rfl, rfl⟩)))
      go_round
      case rel => exact ⟨k + 1, by omega, by go_num, by rw [H1.out]; go_num⟩
      case measure => simp [intOf]; omega
    · go_wp2_with fail
      go_ret
      obtain rfl : k = fr.length := by omega
      have h : total (fr.take fr.length) = total fr := by rw [List.take_length]
      exact ⟨congrArg (fun n : Nat => Ending.returned (.int .i64 (n : Int))) h, rfl⟩

theorem indexB_any (fr : List (List Int)) (v : Value) (ok : Nat → Prop) (w : World) (h : Frs w ok v fr) (hl : fr.length ≤ 1048576) :
    Calls Try.prog 51 #[v, .func (.func 30) #[] #[]] w (Ends fun e w' => (∃ i : Int, e = .returned (.int .i64 i) ∧ (hasEmpty fr = decide (0 ≤ i))) ∧ w = w') := by
  obtain ⟨A, c, rfl⟩ := h.slice
  have HH := Lib.hid h
  clear h
  go_enter Try.func51, Try.ntmps51
  go_wp2_with fail
  go_loop [5, 8] (fun _ i => ∃ k : Nat, k ≤ fr.length ∧ i = .int .i64 k ∧ Hid (hasEmpty (fr.take k) = false)) (fun _ i => fr.length - (intOf i).toNat)
  case atStart => exact ⟨0, Nat.zero_le _, rfl, rfl⟩
  case round =>
    obtain ⟨k, hk, rfl, hno⟩ := hrel
    by_cases hlt : k < fr.length
    · obtain ⟨g, off, A', c', rfl, hg, hc, hs⟩ := HH.out.at_ hlt
      have htk := List.take_succ_eq_append_getElem hlt
      have HS := Lib.hid hs
      have HT := Lib.hid htk
      clear hs htk
      by_cases hz : fr[k].length = 0
      · have hb : (((fr[k].length : Nat) : Int) == 0) = true := by simp [hz]
        have HZ := Lib.hid hz
        have hin : hasEmpty fr = true := by
          unfold hasEmpty
          rw [List.any_eq_true]
          exact ⟨fr[k], List.getElem_mem _, by simp [hz]⟩
        have HI := Lib.hid hin
        clear hz hin
        go_wp2_with (first | (go_at_call 30; go_must (refine (push1_any _ _ _ _ HS.out).mono ?_; rintro e w' ⟨rfl, rfl⟩)))
        go_ret
        exact ⟨⟨_, rfl, by rw [HI.out]; simp⟩, rfl⟩
      · have hb : (((fr[k].length : Nat) : Int) == 0) = false := beq_eq_false_iff_ne.2 (by omega)
        have hno2 : hasEmpty (fr.take (k + 1)) = false := by
          rw [HT.out]
          have := hno.out
          unfold hasEmpty at this ⊢
          rw [List.any_append, this]
          simpa using hz
        have HN := Lib.hid hno2
        clear hno2
        go_wp2_with (first | (go_at_call 30; go_must (refine (push1_any _ _ _ _ HS.out).mono ?_; rintro e w' ⟨rfl, rfl⟩)))
        go_round
        case rel => exact ⟨k + 1, by omega, by go_num, HN⟩
        case measure => simp [intOf]; omega
    · go_wp2_with fail
      go_ret
      obtain rfl : k = fr.length := by omega
      have h := hno.out
      rw [List.take_length] at h
      exact ⟨⟨_, rfl, by rw [h]; simp⟩, rfl⟩

theorem containsB_any (fr : List (List Int)) (v : Value) (ok : Nat → Prop) (w : World) (h : Frs w ok v fr) (hl : fr.length ≤ 1048576) :
    Calls Try.prog 29 #[v, .func (.func 30) #[] #[]] w (Ends fun e w' => e = .returned (.bool (hasEmpty fr)) ∧ w = w') := by
  have HH := Lib.hid h
  clear h
  go_enter Try.func29, Try.ntmps29
  go_wp2_with (first | (go_at_call 51; go_must (refine (indexB_any fr v ok _ HH.out hl).mono ?_; rintro e w' ⟨⟨i, rfl, hi⟩, rfl⟩; have HI := Lib.hid hi; clear hi)))
  go_ret
  exact ⟨by rw [HI.out]; rfl, rfl⟩
end Go.Proofs.Ytcahmhenlpplcaa
