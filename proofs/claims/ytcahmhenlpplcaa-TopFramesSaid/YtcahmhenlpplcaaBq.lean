/-
  The queue of bytes: each method's contract.
-/
import Derived.Test.YtcahmhenlpplcaaProg
import Derived.Test.YtcahmhenlpplcaaKit
namespace Go.Proofs.Ytcahmhenlpplcaa
open Go.RowKit

theorem ty28 : SlTy Try.prog 28 5 1 1 := SlTy.mk_ (z := .int .u8 0) Try.underlying28 (by kernel_rfl) rfl

/-- A queue of bytes at block b: v leads to all bytes, of which some are gone. -/
structure Bq (W : World) (b : Nat) (v : Value) (all : List Int) (gone : Nat) (room : Int) : Prop where
  blk : Blk W b 93 #[v, .int .i64 gone, .int .i64 room, .bool true]
  row : Row W 5 1 v all.length (ints .u8 all)
  le : gone ≤ all.length
section
variable {W W1 : World} {b gone : Nat} {v : Value} {all : List Int} {room : Int}
theorem Bq.c0 (h : Bq W b v all gone room) : W.cell? ⟨b, 0, none⟩ = some v := h.blk.cell 0
theorem Bq.c1 (h : Bq W b v all gone room) : W.cell? ⟨b, 1, none⟩ = some (.int .i64 gone) := h.blk.cell 1
theorem Bq.c2 (h : Bq W b v all gone room) : W.cell? ⟨b, 2, none⟩ = some (.int .i64 room) := h.blk.cell 2
theorem Bq.c3 (h : Bq W b v all gone room) : W.cell? ⟨b, 3, none⟩ = some (.bool true) := h.blk.cell 3
theorem Bq.drewN (h : Bq W b v all gone room) (n : Nat) : Bq (W.drewN n) b v all gone room := ⟨h.blk, h.row, h.le⟩
end

theorem bqNone_any {b gone : Nat} {v : Value} {all : List Int} {room : Int} {w : World} (h : Bq w b v all gone room) :
    Calls Try.prog 52 #[.pointer (some ⟨b, 0, none⟩)] w (Ends fun e w' => e = .returned (.bool false) ∧ w = w') := by
  have h3 := h.c3
  clear h
  go_enter Try.func52, Try.ntmps52
  go_wp2
  go_ret
  exact ⟨rfl, rfl⟩

theorem byLeft_any {b gone : Nat} {v : Value} {all : List Int} {room : Int} {w : World} (h : Bq w b v all gone room) :
    Calls Try.prog 59 #[.pointer (some ⟨b, 0, none⟩)] w (Ends fun e w' => e = .returned (leftVal v all.length gone) ∧ ∃ n, w' = w.drewN n) := by
  have h0 := h.c0
  have h1 := h.c1
  have hle := h.le
  have hm := h.row.maxLen
  obtain ⟨A, c, hv, hc, _⟩ := h.row.sees (ok := fun k => some k = v.ownBlock) (fun _ h => h)
  subst hv
  have HH := Lib.hid (show leftVal (.slice A all.length c) all.length gone = .slice (if all.length = gone then A else Option.map (fun x => x.add gone) A) (all.length - gone) (all.length - gone) from rfl)
  clear h
  go_enter Try.func59, Try.ntmps59
  go_wp2_with fail
  go_quiet (fail)
  rw [← HH.out]
  go_wp2_with fail
  go_ret
  exact ⟨rfl, nq, rfl⟩
theorem Bq.left {W : World} {b gone : Nat} {v : Value} {all : List Int} {room : Int} (h : Bq W b v all gone room) : Sees W (fun k => some k = v.ownBlock) 1 (leftVal v all.length gone) (all.length - gone) (ints .u8 (all.drop gone)) := by
  have h1 := (h.row.sees (ok := fun k => some k = v.ownBlock) (fun _ h => h)).left h.le
  rwa [show List.drop gone (ints .u8 all) = ints .u8 (all.drop gone) from by simp [ints]] at h1

theorem bqLen_any {b gone : Nat} {v : Value} {all : List Int} {room : Int} {w : World} (h : Bq w b v all gone room) :
    Calls Try.prog 45 #[.pointer (some ⟨b, 0, none⟩)] w (Ends fun e w' => e = .returned (.int .i64 ((all.length - gone : Nat) : Int)) ∧ ∃ n, w' = w.drewN n) := by
  obtain ⟨A, c, hv, _⟩ := h.left
  have HH := Lib.hid h
  have HV := Lib.hid hv
  clear h hv
  go_enter Try.func45, Try.ntmps45
  go_wp2_with (first | (go_at_call 52; refine (bqNone_any HH.out).mono ?_; rintro e w' ⟨rfl, rfl⟩) | (go_at_call 59; go_must (refine (byLeft_any HH.out).mono ?_; rintro e w' ⟨rfl, n, rfl⟩; rw [HV.out])))
  go_ret
  exact ⟨rfl, n, rfl⟩

theorem bqRoom_any {b gone : Nat} {v : Value} {all : List Int} {room : Int} {w : World} (h : Bq w b v all gone room) (h0 : 0 ≤ room) (h1 : room ≤ 1048576) :
    Calls Try.prog 47 #[.pointer (some ⟨b, 0, none⟩)] w (Ends fun e w' => e = .returned (.int .i64 (room - ((all.length - gone : Nat) : Int))) ∧ ∃ n, w' = w.drewN n) := by
  have c2 := h.c2
  have hm := h.row.maxLen
  have HH := Lib.hid h
  clear h
  have hm2 : all.length - gone ≤ 9223372036854775807 := by omega
  go_enter Try.func47, Try.ntmps47
  go_wp2_with (first | (go_at_call 52; refine (bqNone_any HH.out).mono ?_; rintro e w' ⟨rfl, rfl⟩))
  go_quiet ((go_at_call 45; exact quiet_call (bqLen_any (HH.out.drewN _))))
  go_wp2_with fail
  go_ret
  exact ⟨rfl, nq, rfl⟩

theorem cloneB_any {ok : Nat → Prop} {v : Value} {xs : List Int} {w : World} (h : Sees w ok 1 v xs.length (ints .u8 xs)) (hl : xs.length ≤ 140737488355328) :
    Calls Try.prog 61 #[v] w (Ends fun e w' => ∃ r, e = .returned r ∧ Row w' 5 1 r xs.length (ints .u8 xs) ∧ (∀ k, some k = r.ownBlock → w.heap.size ≤ k) ∧ Below w.heap.size w w') := by
  obtain ⟨A, hs⟩ : ∃ A, (∃ c, v = .slice A xs.length c) := by
    obtain ⟨A, c, hv, _⟩ := h
    exact ⟨A, c, hv⟩
  obtain ⟨c, rfl⟩ := hs
  have HH := Lib.hid h
  cases A with
  | none =>
    have h0 : xs.length = 0 := by
      obtain ⟨A', c', he, _, _, _, h4⟩ := h
      injection he with he _ _
      rcases Nat.eq_zero_or_pos xs.length with h | hp
      · exact h
      · obtain ⟨g, off, hA, _⟩ := h4 hp
        rw [← he] at hA
        cases hA
    obtain rfl : xs = [] := List.eq_nil_of_length_eq_zero h0
    clear h
    have hq := Lib.run_eql_slice_nil (P := Try.prog) w 28 5 none 0 c 0 0 Try.underlying28
    go_enter Try.func61, Try.ntmps61
    go_wp2
    go_ret
    exact ⟨_, rfl, Row.nil _ _ _, by simp [Value.ownBlock], Below.refl _ _⟩
  | some ad =>
    have hq := Lib.run_eql_slice_nil (P := Try.prog) w 28 5 (some ad) xs.length c 0 0 Try.underlying28
    have hS := (h.keep ((Keep.refl (fun _ => False) w).alloc (.cells #[] 5)) (fun _ _ _ h => h)).src (ints_one _ _)
    obtain ⟨A', c', he, hsrc⟩ := hS
    injection he with he he2 he3
    subst he
    subst he3
    have HS := Lib.hid hsrc
    clear h hsrc he2
    go_enter Try.func61, Try.ntmps61
    go_wp2_with (first | (at_builtin; go_must (refine wpList_append_row rfl _ _ 28 rfl ty28 (v := .slice (some ⟨w.heap.size, 0, none⟩) 0 0) (n := 0) (xs := []) rfl ?hrow _ _ _ (ints .u8 xs) rfl ?hsrc ?h63 ?hb ?_; (case hrow => exact Row.lit _ _ _ 0 [] rfl (by simp)); (case hsrc => exact HS.out); (case h63 => simp only [Go.maxLen]; omega); (case hb => omega); intro v1 w1 hr1 hk1 ho1; have R1 := Lib.hid hr1; have K1 := Lib.hid hk1; have O1 := Lib.hid ho1; clear hr1 hk1 ho1)))
    go_ret
    refine ⟨v1, rfl, by simpa using R1.out, fun k hk => ?_, ?_⟩
    · rcases O1.out with h | h <;> rw [h] at hk <;> simp [Value.ownBlock] at hk <;> omega
    · exact (((Keep.refl (fun k => k = w.heap.size) w).alloc _).then K1.out (fun i hi he => by simp [Value.ownBlock] at he; omega)).below (Nat.le_refl _) (fun k hk => by omega)

/-- How many bytes are taken: at most so many, of n. -/
def tk (most : Int) (n : Nat) : Nat := (min most (n : Int)).toNat
theorem tk_le (most : Int) (n : Nat) : tk most n ≤ n := by unfold tk; omega

theorem bqPeek_any {b gone : Nat} {v : Value} {all : List Int} {room : Int} {w : World} (h : Bq w b v all gone room) (hal : all.length ≤ 1048576) (most : Int) (h0 : 0 ≤ most) :
    Calls Try.prog 58 #[.pointer (some ⟨b, 0, none⟩), .int .i64 most] w (Ends fun e w' => ∃ r, e = .returned (.tuple #[r, .int .i64 0]) ∧
      Row w' 5 1 r (tk most (all.length - gone)) (ints .u8 ((all.drop gone).take (tk most (all.length - gone)))) ∧ (∀ k, some k = r.ownBlock → w.heap.size ≤ k) ∧ Below w.heap.size w w') := by
  have hL := h.left
  obtain ⟨A, c, hv, hc, hrest⟩ := id hL
  clear hrest
  have hk : (min most ((all.length - gone : Nat) : Int)).toNat ≤ all.length - gone := by omega
  have hsub : (ints .u8 (all.drop gone)).take (min most ((all.length - gone : Nat) : Int)).toNat = ints .u8 ((all.drop gone).take (min most ((all.length - gone : Nat) : Int)).toNat) := by simp [ints]
  have hlen : ((all.drop gone).take (min most ((all.length - gone : Nat) : Int)).toNat).length = (min most ((all.length - gone : Nat) : Int)).toNat := by
    rw [List.length_take, List.length_drop]
    omega
  rw [hv] at hL
  have hU := hL.upto (min most ((all.length - gone : Nat) : Int)).toNat c hk (by omega)
  rw [hsub] at hU
  have hk2 : ((all.drop gone).take (min most ((all.length - gone : Nat) : Int)).toNat).length ≤ 140737488355328 := by rw [hlen]; omega
  have HU := Lib.hid hU
  have HL := Lib.hid hlen
  have HH := Lib.hid h
  have HV := Lib.hid hv
  have hlt : decide (most < 0) = false := by simpa using h0
  clear h hv hL hU hsub hlen
  go_enter Try.func58, Try.ntmps58
  go_wp2_with (first | (go_at_call 52; refine (bqNone_any HH.out).mono ?_; rintro e w' ⟨rfl, rfl⟩) | (go_at_call 59; go_must (refine (byLeft_any HH.out).mono ?_; rintro e w' ⟨rfl, n1, rfl⟩; rw [HV.out])) | (go_at_call 45; go_must (refine (bqLen_any (HH.out.drewN _)).mono ?_; rintro e w' ⟨rfl, n2, rfl⟩)) | (go_at_call 61; go_must (refine (cloneB_any (xs := (all.drop gone).take (min most ((all.length - gone : Nat) : Int)).toNat) (by rw [HL.out]; exact HU.out.drewN _) hk2).mono ?_; rw [HL.out]; rintro e w' ⟨r, rfl, hr, ho, hb⟩; have R := Lib.hid hr; have O := Lib.hid ho; have Bw := Lib.hid hb; clear hr ho hb)))
  go_ret2
  exact ⟨r, rfl, R.out, O.out, (below_drewN (Below.refl _ _) _).trans Bw.out⟩

theorem bqTake_any {b gone : Nat} {v : Value} {all : List Int} {room : Int} {w : World} (h : Bq w b v all gone room) (hal : all.length ≤ 1048576) (most : Int) (h0 : 0 ≤ most) :
    Calls Try.prog 42 #[.pointer (some ⟨b, 0, none⟩), .int .i64 most] w (Ends fun e w' => ∃ r, e = .returned (.tuple #[r, .int .i64 0]) ∧
      Row w' 5 1 r (tk most (all.length - gone)) (ints .u8 ((all.drop gone).take (tk most (all.length - gone)))) ∧ (∀ k, some k = r.ownBlock → w.heap.size ≤ k) ∧
      Bq w' b v all (gone + tk most (all.length - gone)) room ∧ Keep (fun k => k = b) w w') := by
  have hP := Lib.hid (bqPeek_any h hal most h0)
  have ht := tk_le most (all.length - gone)
  have hle := h.le
  have hbl := h.blk.lt
  have HH := Lib.hid h
  clear h
  generalize tk most (all.length - gone) = t at *
  go_enter Try.func42, Try.ntmps42
  go_wp2_with (first | (go_at_call 58; go_must (refine hP.out.mono ?_; rintro e w1 ⟨r, rfl, hr, ho, hb⟩; obtain ⟨A, c, rfl⟩ := hr.slice; have c1 : w1.cell? ⟨b, 1, none⟩ = some (.int .i64 (gone : Int)) := (hb.cell (p := ⟨b, 1, none⟩) hbl).trans HH.out.c1; have f1 : w1.frozen? ⟨b, 1, none⟩ = false := (hb.frozen (p := ⟨b, 1, none⟩) hbl).trans (HH.out.blk.frozen 1); have R := Lib.hid hr; have O := Lib.hid ho; have Bw := Lib.hid hb; clear hr ho hb)))
  go_ret2
  have hk1 : Keep (fun k => k = b) w1 (w1.setCell ⟨b, 1, none⟩ (.int .i64 ((gone : Int) + (t : Int)))) := (Keep.refl (fun k => k = b) _).setCell (fun _ => rfl) _
  have hown : ∀ k, some k = (Value.slice A t c).ownBlock → ¬ k = b := fun k hk e => by have := O.out k hk; omega
  refine ⟨_, rfl, R.out.keep hk1 hown, O.out, ⟨?_, ?_, by omega⟩, (Keep.of_below (S := fun k => k = b) Bw.out).setCell (fun _ => rfl) _⟩
  · have h := (HH.out.blk.below Bw.out hbl).set_ 1 (.int .i64 ((gone : Int) + (t : Int)))
    exact h
  · exact (HH.out.row.keep (Keep.of_below (S := fun _ => False) Bw.out) (fun _ _ h => h)).keep hk1 (fun k hk e => HH.out.row.ne_blk HH.out.blk (by decide) (e ▸ hk))

theorem bqDrop_any {b gone : Nat} {v : Value} {all : List Int} {room : Int} {w : World} (h : Bq w b v all gone room) (hal : all.length ≤ 1048576) (most : Int) (h0 : 0 ≤ most) :
    Calls Try.prog 44 #[.pointer (some ⟨b, 0, none⟩), .int .i64 most] w (Ends fun e w' => (∃ x, e = .returned x) ∧ Bq w' b v all (gone + tk most (all.length - gone)) room ∧ Keep (fun k => k = b) w w') := by
  have hP := Lib.hid (bqTake_any h hal most h0)
  clear h
  generalize tk most (all.length - gone) = t at *
  go_enter Try.func44, Try.ntmps44
  go_wp2_with (first | (go_at_call 42; go_must (refine hP.out.mono ?_; rintro e w1 ⟨r, rfl, hr, ho, hb, hk⟩; obtain ⟨A, c, rfl⟩ := hr.slice; have R := Lib.hid hr; have O := Lib.hid ho; have Bw := Lib.hid hb; have K := Lib.hid hk; clear hr ho hb hk)))
  go_ret2
  exact ⟨⟨_, rfl⟩, Bw.out, K.out⟩

theorem bqNew_any (room : Int) (w : World) (h0 : 0 ≤ room) (h1 : room ≤ 1048576) :
    Calls Try.prog 27 #[.int .i64 room] w (Ends fun e w' => e = .returned (.tuple #[.pointer (some ⟨w.heap.size, 0, none⟩), .int .i64 0]) ∧ Bq w' w.heap.size (.slice none 0 0) [] 0 room ∧ Below w.heap.size w w') := by
  have hlt : decide (room < 0) = false := by simpa using h0
  have hgt : decide (1048576 < room) = false := by simpa using h1
  go_enter Try.func27, Try.ntmps27
  go_wp2
  go_ret2
  exact ⟨rfl, ⟨Blk.new _ _ _, Row.nil _ _ _, Nat.le_refl _⟩, (Below.refl _ _).alloc (Nat.le_refl _) _⟩
end Go.Proofs.Ytcahmhenlpplcaa
