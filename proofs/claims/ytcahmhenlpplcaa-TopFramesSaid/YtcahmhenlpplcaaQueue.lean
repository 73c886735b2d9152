/-
  The queue of frames: each method's contract.
-/
import Derived.Test.YtcahmhenlpplcaaLn
namespace Go.Proofs.Ytcahmhenlpplcaa
open Go.RowKit

/-- A queue of frames at block b, its bytes' queue at block c. -/
structure Oq (W : World) (b c : Nat) (vI vB : Value) (lens : List Int) (gI : Nat) (part : Int) (all : List Int) (gB : Nat) (room : Int) : Prop where
  ln : Ln W b vI lens gI part [.pointer (some ⟨c, 0, none⟩), .int .i64 room]
  bq : Bq W c vB all gB room
  lb : ∀ x ∈ lens.drop gI, 0 ≤ x ∧ x ≤ 1048576
  p0 : 0 ≤ part
  p1 : part ≤ 1048576
  r0 : 0 ≤ room
  r1 : room ≤ 1048576
section
variable {W W1 : World} {b c gI gB : Nat} {vI vB : Value} {lens all : List Int} {part room : Int}
theorem Oq.c3 (h : Oq W b c vI vB lens gI part all gB room) : W.cell? ⟨b, 3, none⟩ = some (.pointer (some ⟨c, 0, none⟩)) := (h.ln.blk.cell 3).trans (by simp)
theorem Oq.c4 (h : Oq W b c vI vB lens gI part all gB room) : W.cell? ⟨b, 4, none⟩ = some (.int .i64 room) := (h.ln.blk.cell 4).trans (by simp)
theorem Oq.drewN (h : Oq W b c vI vB lens gI part all gB room) (n : Nat) : Oq (W.drewN n) b c vI vB lens gI part all gB room := ⟨h.ln.drewN n, h.bq.drewN n, h.lb, h.p0, h.p1, h.r0, h.r1⟩
theorem Oq.ne (h : Oq W b c vI vB lens gI part all gB room) : b ≠ c := h.ln.blk.ne h.bq.blk (by decide)
theorem Oq.ne_bB (h : Oq W b c vI vB lens gI part all gB room) : ¬ some b = vB.ownBlock := h.bq.row.ne_blk h.ln.blk (by decide)
theorem Oq.ne_cI (h : Oq W b c vI vB lens gI part all gB room) : ¬ some c = vI.ownBlock := h.ln.row.ne_blk h.bq.blk (by decide)
theorem Oq.ne_bI (h : Oq W b c vI vB lens gI part all gB room) : ¬ some b = vI.ownBlock := h.ln.row.ne_blk h.ln.blk (by decide)
theorem Oq.ne_cB (h : Oq W b c vI vB lens gI part all gB room) : ¬ some c = vB.ownBlock := h.bq.row.ne_blk h.bq.blk (by decide)
theorem Oq.ne_IB (h : Oq W b c vI vB lens gI part all gB room) : ∀ k, some k = vI.ownBlock → ¬ some k = vB.ownBlock := h.ln.row.ne_row h.bq.row (by decide)
theorem Ln.keep {S : Nat → Prop} {rest : List Value} (h : Ln W b vI lens gI part rest) (hk : Keep S W W1) (hb : ¬ S b) (hv : ∀ k, some k = vI.ownBlock → ¬ S k) : Ln W1 b vI lens gI part rest := ⟨h.blk.keep hk hb, h.row.keep hk hv, h.le⟩
theorem Bq.keep {S : Nat → Prop} (h : Bq W c vB all gB room) (hk : Keep S W W1) (hb : ¬ S c) (hv : ∀ k, some k = vB.ownBlock → ¬ S k) : Bq W1 c vB all gB room := ⟨h.blk.keep hk hb, h.row.keep hk hv, h.le⟩
theorem Oq.keep {S : Nat → Prop} (h : Oq W b c vI vB lens gI part all gB room) (hk : Keep S W W1) (hb : ¬ S b) (hc : ¬ S c) (hI : ∀ k, some k = vI.ownBlock → ¬ S k) (hB : ∀ k, some k = vB.ownBlock → ¬ S k) : Oq W1 b c vI vB lens gI part all gB room :=
  ⟨h.ln.keep hk hb hI, h.bq.keep hk hc hB, h.lb, h.p0, h.p1, h.r0, h.r1⟩
end
/-- The queue's own blocks. -/
def OqS (b c : Nat) (vI vB : Value) : Nat → Prop := fun k => k = b ∨ k = c ∨ some k = vI.ownBlock ∨ some k = vB.ownBlock

section
variable {b c gI gB : Nat} {vI vB : Value} {lens all : List Int} {part room : Int} {w : World}
theorem oqNone_any (h : Oq w b c vI vB lens gI part all gB room) :
    Calls Try.prog 28 #[.pointer (some ⟨b, 0, none⟩)] w (Ends fun e w' => e = .returned (.bool false) ∧ w = w') := by
  have h3 := h.c3
  clear h
  go_enter Try.func28, Try.ntmps28
  go_wp2
  go_ret
  exact ⟨rfl, rfl⟩

theorem oqLen_any (h : Oq w b c vI vB lens gI part all gB room) :
    Calls Try.prog 19 #[.pointer (some ⟨b, 0, none⟩)] w (Ends fun e w' => e = .returned (.int .i64 ((all.length - gB : Nat) : Int)) ∧ ∃ n, w' = w.drewN n) := by
  have h3 := h.c3
  have HH := Lib.hid h
  clear h
  go_enter Try.func19, Try.ntmps19
  go_wp2_with (first | (go_at_call 28; refine (oqNone_any HH.out).mono ?_; rintro e w' ⟨rfl, rfl⟩) | (go_at_call 45; go_must (refine (bqLen_any HH.out.bq).mono ?_; rintro e w' ⟨rfl, n, rfl⟩)))
  go_ret
  exact ⟨rfl, n, rfl⟩

theorem oqRoom_any (h : Oq w b c vI vB lens gI part all gB room) :
    Calls Try.prog 22 #[.pointer (some ⟨b, 0, none⟩)] w (Ends fun e w' => e = .returned (.int .i64 (room - ((all.length - gB : Nat) : Int))) ∧ ∃ n, w' = w.drewN n) := by
  have h3 := h.c3
  have HH := Lib.hid h
  clear h
  go_enter Try.func22, Try.ntmps22
  go_wp2_with (first | (go_at_call 28; refine (oqNone_any HH.out).mono ?_; rintro e w' ⟨rfl, rfl⟩) | (go_at_call 47; go_must (refine (bqRoom_any HH.out.bq HH.out.r0 HH.out.r1).mono ?_; rintro e w' ⟨rfl, n, rfl⟩)))
  go_ret
  exact ⟨rfl, n, rfl⟩

theorem oqBegun_any (h : Oq w b c vI vB lens gI part all gB room) :
    Calls Try.prog 21 #[.pointer (some ⟨b, 0, none⟩)] w (Ends fun e w' => e = .returned (.int .i64 part) ∧ w = w') := by
  have h2 := h.ln.c2
  have HH := Lib.hid h
  clear h
  go_enter Try.func21, Try.ntmps21
  go_wp2_with (first | (go_at_call 28; refine (oqNone_any HH.out).mono ?_; rintro e w' ⟨rfl, rfl⟩))
  go_ret
  exact ⟨rfl, rfl⟩

theorem oqFrames_any (h : Oq w b c vI vB lens gI part all gB room) :
    Calls Try.prog 20 #[.pointer (some ⟨b, 0, none⟩)] w (Ends fun e w' => e = .returned (.int .i64 ((lens.length - gI : Nat) : Int)) ∧ ∃ n, w' = w.drewN n) := by
  obtain ⟨A, c1, hv, hrest⟩ := h.ln.left
  have HV := Lib.hid hv
  have HH := Lib.hid h
  clear h hv hrest
  go_enter Try.func20, Try.ntmps20
  go_wp2_with (first | (go_at_call 28; refine (oqNone_any HH.out).mono ?_; rintro e w' ⟨rfl, rfl⟩) | (go_at_call 46; go_must (refine (lnLeft_any HH.out.ln).mono ?_; rintro e w' ⟨rfl, n, rfl⟩; rw [HV.out])))
  go_ret
  exact ⟨rfl, n, rfl⟩
end

theorem cloneI_any {ok : Nat → Prop} {v : Value} {xs : List Int} {w : World} (h : Sees w ok 1 v xs.length (ints .i64 xs)) (hl : xs.length ≤ 1048576) :
    Calls Try.prog 60 #[v] w (Ends fun e w' => ∃ r, e = .returned r ∧ Row w' 3 1 r xs.length (ints .i64 xs) ∧ (∀ k, some k = r.ownBlock → w.heap.size ≤ k) ∧ Below w.heap.size w w') := by
  obtain ⟨A, hs⟩ : ∃ A, (∃ c, v = .slice A xs.length c) := by
    obtain ⟨A, c, hv, _⟩ := h
    exact ⟨A, c, hv⟩
  obtain ⟨c, rfl⟩ := hs
  have HH := Lib.hid h
  cases A with
  | none =>
    have h0 : xs.length = 0 := by
      obtain ⟨A', c', he, _, _, _, h4⟩ := h
      injection he with he _ _
      rcases Nat.eq_zero_or_pos xs.length with h | hp
      · exact h
      · obtain ⟨g, off, hA, _⟩ := h4 hp
        rw [← he] at hA
        cases hA
    obtain rfl : xs = [] := List.eq_nil_of_length_eq_zero h0
    clear h
    have hq := Lib.run_eql_slice_nil (P := Try.prog) w 47 3 none 0 c 0 0 Try.underlying47
    go_enter Try.func60, Try.ntmps60
    go_wp2
    go_ret
    exact ⟨_, rfl, Row.nil _ _ _, by simp [Value.ownBlock], Below.refl _ _⟩
  | some ad =>
    have hq := Lib.run_eql_slice_nil (P := Try.prog) w 47 3 (some ad) xs.length c 0 0 Try.underlying47
    have hS := (h.keep ((Keep.refl (fun _ => False) w).alloc (.cells #[] 3)) (fun _ _ _ h => h)).src (ints_one _ _)
    obtain ⟨A', c', he, hsrc⟩ := hS
    injection he with he he2 he3
    subst he
    subst he3
    have HS := Lib.hid hsrc
    clear h hsrc he2
    go_enter Try.func60, Try.ntmps60
    go_wp2_with (first | (at_builtin; go_must (refine wpList_append_row rfl _ _ 47 rfl ty47 (v := .slice (some ⟨w.heap.size, 0, none⟩) 0 0) (n := 0) (xs := []) rfl ?hrow _ _ _ (ints .i64 xs) rfl ?hsrc ?h63 ?hb ?_; (case hrow => exact Row.lit _ _ _ 0 [] rfl (by simp)); (case hsrc => exact HS.out); (case h63 => simp only [Go.maxLen]; omega); (case hb => omega); intro v1 w1 hr1 hk1 ho1; have R1 := Lib.hid hr1; have K1 := Lib.hid hk1; have O1 := Lib.hid ho1; clear hr1 hk1 ho1)))
    go_ret
    refine ⟨v1, rfl, by simpa using R1.out, fun k hk => ?_, ?_⟩
    · rcases O1.out with h | h <;> rw [h] at hk <;> simp [Value.ownBlock] at hk <;> omega
    · exact (((Keep.refl (fun k => k = w.heap.size) w).alloc _).then K1.out (fun i hi he => by simp [Value.ownBlock] at he; omega)).below (Nat.le_refl _) (fun k hk => by omega)

/-- How many bytes of each frame wait. -/
def waitsOf (lens : List Int) (part : Int) : List Int :=
  match lens with
  | [] => []
  | x :: xs => (x - part) :: xs
theorem waitsOf_len (lens : List Int) (part : Int) : (waitsOf lens part).length = lens.length := by cases lens <;> rfl

section
variable {b c gI gB : Nat} {vI vB : Value} {lens all : List Int} {part room : Int} {w : World}
theorem oqWaiting_any (h : Oq w b c vI vB lens gI part all gB room) (hl : lens.length ≤ 1048576) :
    Calls Try.prog 49 #[.pointer (some ⟨b, 0, none⟩)] w (Ends fun e w' => ∃ r, e = .returned r ∧ Row w' 3 1 r (lens.length - gI) (ints .i64 (waitsOf (lens.drop gI) part)) ∧ (∀ k, some k = r.ownBlock → w.heap.size ≤ k) ∧ Below w.heap.size w w') := by
  have hS := h.ln.left
  have hdl : (lens.drop gI).length = lens.length - gI := by simp
  rw [← hdl] at hS
  obtain ⟨A, c1, hv, hrest⟩ := id hS
  clear hrest
  have hC := fun n => cloneI_any (w := w.drewN n) hS (by omega)
  rw [hv] at hC
  have HC := Lib.hid hC
  have HV := Lib.hid hv
  have HH := Lib.hid h
  have hlt := h.ln.blk.lt
  have hp0 := h.p0
  have hp1 := h.p1
  have hlb : ∀ x ∈ lens.drop gI, 0 ≤ x ∧ x ≤ 1048576 := h.lb
  have HLB := Lib.hid hlb
  clear h hS hv hC hlb
  rw [← hdl]
  generalize lens.drop gI = d at *
  have HD := Lib.hid hdl
  clear hdl
  rcases d with _ | ⟨x, xs⟩
  · go_enter Try.func49, Try.ntmps49
    go_wp2_with (first | (go_at_call 28; refine (oqNone_any HH.out).mono ?_; rintro e w' ⟨rfl, rfl⟩) | (go_at_call 46; go_must (refine (lnLeft_any HH.out.ln).mono ?_; rintro e w' ⟨rfl, n, rfl⟩; rw [HV.out])) | (go_at_call 60; go_must (refine (HC.out _).mono ?_; rintro e w1 ⟨r, rfl, hr, ho, hb⟩; obtain ⟨Ar, cr, rfl⟩ := hr.slice; have R := Lib.hid hr; have O := Lib.hid ho; have Bw := Lib.hid hb; clear hr ho hb)))
    go_ret
    exact ⟨_, rfl, R.out, O.out, (below_drewN (Below.refl _ _) n).trans Bw.out⟩
  · obtain ⟨hx0, hx1⟩ := HLB.out x (by simp)
    go_enter Try.func49, Try.ntmps49
    go_wp2_with (first | (go_at_call 28; refine (oqNone_any HH.out).mono ?_; rintro e w' ⟨rfl, rfl⟩) | (go_at_call 46; go_must (refine (lnLeft_any HH.out.ln).mono ?_; rintro e w' ⟨rfl, n, rfl⟩; rw [HV.out])) | (go_at_call 60; go_must (refine (HC.out _).mono ?_; rintro e w1 ⟨r, rfl, hr, ho, hb⟩; obtain ⟨g, off, cr, rfl, hcr, hg, hgf, hgc⟩ := hr.cells (by simp); have q0 : w1.cell? ⟨g, off, none⟩ = some (.int .i64 x) := hgc 0 _ rfl; have q1 := hgf off; have p2 : w1.cell? ⟨b, 2, none⟩ = some (.int .i64 part) := (hb.cell (p := ⟨b, 2, none⟩) hlt).trans HH.out.ln.c2; have R := Lib.hid hr; have O := Lib.hid ho; have Bw := Lib.hid hb; clear hr ho hb hgf hgc)))
    go_region
    go_wp2_with fail
    go_ret
    have hgB := O.out g rfl
    refine ⟨_, rfl, (R.out.set_ (j := 0) (by simp) (.int .i64 (x - part))).drew, O.out, ?_⟩
    exact (((below_drewN (Below.refl _ _) n).trans Bw.out).setCell (p := ⟨g, off, none⟩) (by simpa using hgB) _).drew
end
end Go.Proofs.Ytcahmhenlpplcaa
