/-
  The queue of frames: the lengths.
-/
import Derived.Test.YtcahmhenlpplcaaPut
import Derived.Test.YtcahmhenlpplcaaShare
namespace Go.Proofs.Ytcahmhenlpplcaa
open Go.RowKit

/-- Lengths at the front of block b: all, some gone, of the first a part. -/
structure Ln (W : World) (b : Nat) (v : Value) (all : List Int) (gone : Nat) (part : Int) (rest : List Value) : Prop where
  blk : Blk W b 68 (#[v, .int .i64 gone, .int .i64 part] ++ rest.toArray)
  row : Row W 3 1 v all.length (ints .i64 all)
  le : gone ≤ all.length
section
variable {W W1 : World} {b gone : Nat} {v : Value} {all : List Int} {part : Int} {rest : List Value}
theorem Ln.c0 (h : Ln W b v all gone part rest) : W.cell? ⟨b, 0, none⟩ = some v := by rw [h.blk.cell 0]; simp
theorem Ln.c1 (h : Ln W b v all gone part rest) : W.cell? ⟨b, 1, none⟩ = some (.int .i64 gone) := by rw [h.blk.cell 1]; simp
theorem Ln.c2 (h : Ln W b v all gone part rest) : W.cell? ⟨b, 2, none⟩ = some (.int .i64 part) := by rw [h.blk.cell 2]; simp
theorem Ln.drewN (h : Ln W b v all gone part rest) (n : Nat) : Ln (W.drewN n) b v all gone part rest := ⟨h.blk, h.row, h.le⟩
theorem Ln.left (h : Ln W b v all gone part rest) : Sees W (fun k => some k = v.ownBlock) 1 (leftVal v all.length gone) (all.length - gone) (ints .i64 (all.drop gone)) := by
  have h1 := (h.row.sees (ok := fun k => some k = v.ownBlock) (fun _ h => h)).left h.le
  rwa [show List.drop gone (ints .i64 all) = ints .i64 (all.drop gone) from by simp [ints]] at h1
theorem Ln.set1 (h : Ln W b v all gone part rest) {g : Nat} (hg : g ≤ all.length) : Ln (W.setCell ⟨b, 1, none⟩ (.int .i64 g)) b v all g part rest := by
  refine ⟨?_, h.row.keep ((Keep.refl (fun k => k = b) _).setCell (fun _ => rfl) _) (fun k hk e => h.row.ne_blk h.blk (by decide) (e ▸ hk)), hg⟩
  have := h.blk.set_ 1 (.int .i64 g)
  simpa using this
theorem Ln.set2 (h : Ln W b v all gone part rest) (p : Int) : Ln (W.setCell ⟨b, 2, none⟩ (.int .i64 p)) b v all gone p rest := by
  refine ⟨?_, h.row.keep ((Keep.refl (fun k => k = b) _).setCell (fun _ => rfl) _) (fun k hk e => h.row.ne_blk h.blk (by decide) (e ▸ hk)), h.le⟩
  have := h.blk.set_ 2 (.int .i64 p)
  simpa using this
end

theorem lnLeft_any {b gone : Nat} {v : Value} {all : List Int} {part : Int} {rest : List Value} {w : World} (h : Ln w b v all gone part rest) :
    Calls Try.prog 46 #[.pointer (some ⟨b, 0, none⟩)] w (Ends fun e w' => e = .returned (leftVal v all.length gone) ∧ ∃ n, w' = w.drewN n) := by
  have h0 := h.c0
  have h1 := h.c1
  have hle := h.le
  have hm := h.row.maxLen
  obtain ⟨A, c, hv, hc, hrest⟩ := h.row.sees (ok := fun k => some k = v.ownBlock) (fun _ h => h)
  clear hrest
  subst hv
  have HH := Lib.hid (show leftVal (.slice A all.length c) all.length gone = .slice (if all.length = gone then A else Option.map (fun x => x.add gone) A) (all.length - gone) (all.length - gone) from rfl)
  clear h
  go_enter Try.func46, Try.ntmps46
  go_wp2_with fail
  go_quiet (fail)
  rw [← HH.out]
  go_wp2_with fail
  go_ret
  exact ⟨rfl, nq, rfl⟩

/-- How many lengths end with so many more, and what is left of the next. -/
def goesTo : List Int → Int → Nat × Int
  | [], p => (0, p)
  | x :: xs, p => if x ≤ p then ((goesTo xs (p - x)).1 + 1, (goesTo xs (p - x)).2) else (0, p)

theorem lnGoes_any {b gone : Nat} {v : Value} {all : List Int} {part : Int} {rest : List Value} {w : World} (h : Ln w b v all gone part rest) (n : Int) (hal : all.length ≤ 1048576)
    (hp : 0 ≤ part) (hn : 0 ≤ n) (hpn : part + n ≤ 1048576) (hall : ∀ x ∈ all.drop gone, 0 ≤ x ∧ x ≤ 1048576) :
    Calls Try.prog 43 #[.pointer (some ⟨b, 0, none⟩), .int .i64 n] w (Ends fun e w' => e = .returned (.int .i64 ((goesTo (all.drop gone) (part + n)).1 : Nat)) ∧
      Ln w' b v all (gone + (goesTo (all.drop gone) (part + n)).1) (goesTo (all.drop gone) (part + n)).2 rest ∧ Keep (fun k => k = b) w w') := by
  have hc2 := h.c2
  have hf2 := h.blk.frozen 2
  have HH := Lib.hid (h.set2 (part + n))
  have HA := Lib.hid hall
  clear h hall
  go_enter Try.func43, Try.ntmps43
  go_wp2_with fail
  go_loopw [4] (fun e wr => ∃ (k : Nat) (p : Int), e = .int .i64 k ∧ k ≤ all.length ∧ 0 ≤ p ∧ p ≤ 1048576 ∧ Ln wr b v all (gone + k) p rest ∧
      Hid ((goesTo (all.drop gone) (part + n)).1 = k + (goesTo (all.drop (gone + k)) p).1 ∧ (goesTo (all.drop gone) (part + n)).2 = (goesTo (all.drop (gone + k)) p).2) ∧ Keep (fun k => k = b) w wr) (fun e _ => all.length - (intOf e).toNat)
  case atStart => exact ⟨0, part + n, rfl, Nat.zero_le _, by omega, hpn, HH.out, ⟨by simp, by simp⟩, (Keep.refl (fun k => k = b) _).setCell (fun _ => rfl) _⟩
  case round =>
    obtain ⟨k, p, rfl, hk, hp0, hp1, hln, heq, hkeep⟩ := hrel
    have HLn := Lib.hid hln
    have HKp := Lib.hid hkeep
    have d2 := hln.c2
    have g2 := hln.blk.frozen 2
    have d1 := hln.c1
    have g1 := hln.blk.frozen 1
    have hS := hln.left
    obtain ⟨A, c, hv, _, _, _, hcell⟩ := hS
    have hC : ∀ m, Calls Try.prog 46 #[.pointer (some ⟨b, 0, none⟩)] (wr.drewN m) (Ends fun e w' => e = .returned (.slice A (all.length - (gone + k)) c) ∧ ∃ n, w' = (wr.drewN m).drewN n) := fun m => by
      rw [← hv]
      exact lnLeft_any (hln.drewN m)
    have hle := hln.le
    clear hln hkeep hv
    rcases hr : all.drop (gone + k) with _ | ⟨x, xs⟩
    · have h0 : all.length - (gone + k) = 0 := by
        have := congrArg List.length hr
        simpa using this
      rw [h0] at hC
      have HC := Lib.hid hC
      have HR := Lib.hid hr
      clear hr h0 hcell hC
      go_wp2_with fail
      go_quiet ((go_at_call 46; exact quiet_call (HC.out _)))
      go_wp2_with fail
      go_ret
      obtain ⟨e1, e2⟩ := heq.out
      rw [HR.out] at e1 e2
      simp only [goesTo, Nat.add_zero] at e1 e2
      rw [e1, e2]
      exact ⟨rfl, HLn.out.drewN _, HKp.out.drewN _⟩
    · have h0 : all.length - (gone + k) = xs.length + 1 := by
        have := congrArg List.length hr
        simpa using this
      rw [h0] at hC hcell
      obtain ⟨g, off, rfl, _, _, hx⟩ := hcell (by omega)
      have hx0 : wr.cell? ⟨g, off, none⟩ = some (.int .i64 x) := hx 0 _ (by rw [hr]; rfl)
      have hxm : 0 ≤ x ∧ x ≤ 1048576 := HA.out x (List.mem_of_mem_drop (i := k) (by rw [List.drop_drop, hr]; simp))
      obtain ⟨hxm0, hxm1⟩ := hxm
      have hr2 : all.drop (gone + (k + 1)) = xs := by
        rw [← Nat.add_assoc, ← List.drop_drop, hr]
        rfl
      have hk2 : gone + (k + 1) ≤ all.length := by omega
      have HC := Lib.hid hC
      have HR := Lib.hid hr
      have HR2 := Lib.hid hr2
      clear hr h0 hcell hC hx hr2
      by_cases hxp : x ≤ p
      · go_wp2_with fail
        go_quiet ((go_at_call 46; exact quiet_call (HC.out _)))
        go_wp2_with fail
        go_region_law (first | (go_simp; go_at_call 46; refine (HC.out _).mono ?_; rintro e w' ⟨rfl, n1, rfl⟩))
        all_goals
          go_wp2_with fail
          obtain ⟨e1, e2⟩ := heq.out
          rw [HR.out] at e1 e2
          simp only [goesTo, if_pos hxp] at e1 e2
          refine ⟨⟨k + 1, p - x, by go_num, by omega, by omega, by omega, ?_, ⟨?_, ?_⟩, ?_⟩, by simp [intOf]; omega⟩
          · rw [show (gone : Int) + (k : Int) + 1 = ((gone + (k + 1) : Nat) : Int) from by omega]
            exact ((HLn.out.drewN _).set2 (p - x)).set1 hk2
          · rw [HR2.out, e1]
            omega
          · rw [HR2.out, e2]
          · exact ((HKp.out.drewN _).setCell (p := ⟨b, 2, none⟩) (fun _ => rfl) _).setCell (p := ⟨b, 1, none⟩) (fun _ => rfl) _
      · go_wp2_with fail
        go_quiet ((go_at_call 46; exact quiet_call (HC.out _)))
        go_wp2_with fail
        go_ret
        obtain ⟨e1, e2⟩ := heq.out
        rw [HR.out] at e1 e2
        simp only [goesTo, if_neg (show ¬ x ≤ p by omega), Nat.add_zero] at e1 e2
        rw [e1, e2]
        exact ⟨rfl, HLn.out.drewN _, HKp.out.drewN _⟩
end Go.Proofs.Ytcahmhenlpplcaa
