/-
  The window: each method's contract.
-/
import Derived.Test.YtcahmhenlpplcaaProg
import Derived.Test.YtcahmhenlpplcaaKit
namespace Go.Proofs.Ytcahmhenlpplcaa
open Go.RowKit

/-- A window at block b: l may go, g went, shut or not. -/
def Win (W : World) (b : Nat) (l g : Int) (sh : Bool) : Prop := Blk W b 73 #[.int .u64 l, .int .u64 g, .bool sh, .bool true]
section
variable {W : World} {b : Nat} {l g : Int} {sh : Bool}
theorem Win.c0 (h : Win W b l g sh) : W.cell? ⟨b, 0, none⟩ = some (.int .u64 l) := h.cell 0
theorem Win.c1 (h : Win W b l g sh) : W.cell? ⟨b, 1, none⟩ = some (.int .u64 g) := h.cell 1
theorem Win.c2 (h : Win W b l g sh) : W.cell? ⟨b, 2, none⟩ = some (.bool sh) := h.cell 2
theorem Win.c3 (h : Win W b l g sh) : W.cell? ⟨b, 3, none⟩ = some (.bool true) := h.cell 3
theorem Win.f (h : Win W b l g sh) (i : Nat) : W.frozen? ⟨b, i, none⟩ = false := h.frozen i
end

theorem wNew_any (w : World) : Calls Try.prog 7 #[] w (Ends fun e w' => e = .returned (.pointer (some ⟨w.heap.size, 0, none⟩)) ∧ w' = w.alloc (.cells #[.int .u64 0, .int .u64 0, .bool false, .bool true] 73)) := by
  go_enter Try.func7, Try.ntmps7
  go_wp2
  go_ret
  exact ⟨rfl, rfl⟩

theorem wNone_any {b : Nat} {l g : Int} {sh : Bool} {w : World} (h : Win w b l g sh) :
    Calls Try.prog 35 #[.pointer (some ⟨b, 0, none⟩)] w (Ends fun e w' => e = .returned (.bool false) ∧ w = w') := by
  have h3 := h.c3
  go_enter Try.func35, Try.ntmps35
  go_wp2
  go_ret
  exact ⟨rfl, rfl⟩

theorem cLeft_any {b : Nat} {l g : Int} {sh : Bool} {w : World} (h : Win w b l g sh) :
    Calls Try.prog 36 #[.pointer (some ⟨b, 0, none⟩)] w (Ends fun e w' => e = .returned (.int .u64 l) ∧ w = w') := by
  have h0 := h.c0
  go_enter Try.func36, Try.ntmps36
  go_wp2
  go_ret
  exact ⟨rfl, rfl⟩

theorem cGone_any {b : Nat} {l g : Int} {sh : Bool} {w : World} (h : Win w b l g sh) :
    Calls Try.prog 48 #[.pointer (some ⟨b, 0, none⟩)] w (Ends fun e w' => e = .returned (.int .u64 g) ∧ w = w') := by
  have h0 := h.c1
  go_enter Try.func48, Try.ntmps48
  go_wp2
  go_ret
  exact ⟨rfl, rfl⟩

theorem wLeft_any {b : Nat} {l g : Int} {sh : Bool} {w : World} (h : Win w b l g sh) :
    Calls Try.prog 23 #[.pointer (some ⟨b, 0, none⟩)] w (Ends fun e w' => e = .returned (.int .u64 l) ∧ w = w') := by
  go_enter Try.func23, Try.ntmps23
  go_wp2_with (first | (go_at_call 35; refine (wNone_any h).mono ?_; rintro e w' ⟨rfl, rfl⟩) | (go_at_call 36; refine (cLeft_any h).mono ?_; rintro e w' ⟨rfl, rfl⟩))
  go_ret
  exact ⟨rfl, rfl⟩

theorem wGone_any {b : Nat} {l g : Int} {sh : Bool} {w : World} (h : Win w b l g sh) :
    Calls Try.prog 24 #[.pointer (some ⟨b, 0, none⟩)] w (Ends fun e w' => e = .returned (.int .u64 g) ∧ w = w') := by
  go_enter Try.func24, Try.ntmps24
  go_wp2_with (first | (go_at_call 35; refine (wNone_any h).mono ?_; rintro e w' ⟨rfl, rfl⟩) | (go_at_call 48; refine (cGone_any h).mono ?_; rintro e w' ⟨rfl, rfl⟩))
  go_ret
  exact ⟨rfl, rfl⟩

theorem wOpen_any {b : Nat} {l g : Int} {sh : Bool} {w : World} (h : Win w b l g sh) :
    Calls Try.prog 25 #[.pointer (some ⟨b, 0, none⟩)] w (Ends fun e w' => e = .returned (.bool (!sh)) ∧ w = w') := by
  have h2 := h.c2
  go_enter Try.func25, Try.ntmps25
  go_wp2_with (first | (go_at_call 35; refine (wNone_any h).mono ?_; rintro e w' ⟨rfl, rfl⟩))
  go_ret
  exact ⟨rfl, rfl⟩

theorem wShut_any {b : Nat} {l g : Int} {sh : Bool} {w : World} (h : Win w b l g sh) :
    Calls Try.prog 17 #[.pointer (some ⟨b, 0, none⟩)] w (Ends fun e w' => e = .returned (.int .u64 l) ∧ Win w' b 0 g true ∧ Keep (fun k => k = b) w w') := by
  have h0 := h.c0
  have h2 := h.c2
  have f0 := h.f 0
  have f2 := h.f 2
  have hend : Win ((w.setCell ⟨b, 0, none⟩ (.int .u64 0)).setCell ⟨b, 2, none⟩ (.bool true)) b 0 g true := by
    have := (h.set_ 0 (.int .u64 0)).set_ 2 (.bool true)
    exact this
  have H := Lib.hid hend
  clear hend
  go_enter Try.func17, Try.ntmps17
  go_wp2_with (first | (go_at_call 35; refine (wNone_any h).mono ?_; rintro e w' ⟨rfl, rfl⟩) | (go_at_call 23; refine (wLeft_any h).mono ?_; rintro e w' ⟨rfl, rfl⟩))
  go_ret
  exact ⟨rfl, H.out, ((Keep.refl (fun k => k = b) _).setCell (fun _ => rfl) _).setCell (fun _ => rfl) _⟩

/-- What may go behind a grant. -/
def granted (sh : Bool) (l n : Int) : Int := if sh = true then l else min 1099511627776 (l + n)

theorem wGrant_any {b : Nat} {l g : Int} {sh : Bool} {w : World} (h : Win w b l g sh) (n : Int) (hl : 0 ≤ l) (hl2 : l ≤ 1099511627776) (hn : 0 ≤ n) (hn2 : n ≤ 255) :
    Calls Try.prog 12 #[.pointer (some ⟨b, 0, none⟩), .int .u64 n] w (Ends fun e w' =>
      e = .returned (.tuple #[.int .u64 (granted sh l n), .int .i64 0]) ∧ Win w' b (granted sh l n) g sh ∧ Keep (fun k => k = b) w w') := by
  have h0 := h.c0
  have h2 := h.c2
  have f0 := h.f 0
  have HH := Lib.hid h
  clear h
  cases sh with
  | true =>
    go_enter Try.func12, Try.ntmps12
    go_wp2_with (first | (go_at_call 35; refine (wNone_any HH.out).mono ?_; rintro e w' ⟨rfl, rfl⟩) | (go_at_call 36; refine (cLeft_any HH.out).mono ?_; rintro e w' ⟨rfl, rfl⟩))
    go_ret2
    exact ⟨rfl, HH.out, Keep.refl _ _⟩
  | false =>
    have hend : ∀ x, Win (w.drew.setCell ⟨b, 0, none⟩ (.int .u64 x)) b x g false := fun x => HH.out.drew.set_ 0 (.int .u64 x)
    have H := Lib.hid hend
    clear hend
    have h0' : w.drew.cell? ⟨b, 0, none⟩ = some (.int .u64 l) := h0
    go_enter Try.func12, Try.ntmps12
    go_wp2_with (first | (go_at_call 35; refine (wNone_any HH.out).mono ?_; rintro e w' ⟨rfl, rfl⟩))
    go_region_held3 (fun _ => True) (trivial) (first | (go_at_call 36; refine (cLeft_any HH.out.drew).mono ?_; rintro e w' ⟨rfl, rfl⟩))
    all_goals
      have e1 : IntKind.u64.wrap (l + min n 1099511627776) = l + n := by
        rw [Int.min_eq_left (by omega)]
        exact IntWalk.u64_in _ (by omega)
      rw [e1]
      clear e1
      go_wp2_with (first | (go_at_call 36; refine (cLeft_any (H.out _)).mono ?_; rintro e w' ⟨rfl, rfl⟩))
      go_ret2
      exact ⟨rfl, H.out _, ((Keep.refl (fun k => k = b) _).setCell (fun _ => rfl) _).drew⟩

theorem dAdd_any (a b : Int) (w : World) (ha : 0 ≤ a) (hb : 0 ≤ b) (h : a + b ≤ 18446744073709551615) :
    Calls Try.prog 57 #[.int .u64 a, .int .u64 b] w (Ends fun e w' => e = .returned (.tuple #[.int .u64 (a + b), .int .i64 0]) ∧ w = w') := by
  have hlt : ¬ (a + b < a) := by omega
  go_enter Try.func57, Try.ntmps57
  go_wp2
  go_ret2
  exact ⟨rfl, rfl⟩

theorem cGoes_any {b : Nat} {l g : Int} {sh : Bool} {w : World} (h : Win w b l g sh) (n : Int) (hn : 0 ≤ n) (hnl : n ≤ l) (hl : l ≤ 1099511627776) (hg : 0 ≤ g) (hg2 : g ≤ 281474976710656) :
    Calls Try.prog 41 #[.pointer (some ⟨b, 0, none⟩), .int .u64 n] w (Ends fun e w' => (∃ v, e = .returned v) ∧ Win w' b (l - n) (g + n) sh ∧ Keep (fun k => k = b) w w') := by
  have h0 := h.c0
  have h1 := h.c1
  have f0 := h.f 0
  have f1 := h.f 1
  have hW1 : Win (w.setCell ⟨b, 0, none⟩ (.int .u64 (l - n))).drew b (l - n) g sh := h.drew.set_ 0 (.int .u64 (l - n))
  have hW2 : Win ((w.setCell ⟨b, 0, none⟩ (.int .u64 (l - n))).setCell ⟨b, 1, none⟩ (.int .u64 (g + n))).drew b (l - n) (g + n) sh := hW1.set_ 1 (.int .u64 (g + n))
  have HH := Lib.hid h
  have H1 := Lib.hid hW1
  have H2 := Lib.hid hW2
  clear h hW1 hW2
  go_enter Try.func41, Try.ntmps41
  go_wp2_with fail
  go_region
  go_wp2_with (first | (go_at_call 48; refine (cGone_any H1.out).mono ?_; rintro e w' ⟨rfl, rfl⟩) | (go_at_call 57; refine (dAdd_any g n _ hg hn (by omega)).mono ?_; rintro e w' ⟨rfl, rfl⟩))
  go_end0
  exact ⟨⟨_, rfl⟩, H2.out, (((Keep.refl (fun k => k = b) _).setCell (fun _ => rfl) _).setCell (fun _ => rfl) _).drew⟩

theorem wTake_any {b : Nat} {l g : Int} {sh : Bool} {w : World} (h : Win w b l g sh) (most : Int) (hm : 0 ≤ most) (hm2 : most ≤ 1048576) (hl0 : 0 ≤ l) (hl : l ≤ 1099511627776) (hg : 0 ≤ g) (hg2 : g ≤ 281474976710656) :
    Calls Try.prog 14 #[.pointer (some ⟨b, 0, none⟩), .int .i64 most] w (Ends fun e w' =>
      e = .returned (.tuple #[.int .i64 (min most l), .int .i64 0]) ∧ Win w' b (l - min most l) (g + min most l) sh ∧ Keep (fun k => k = b) w w') := by
  have HH := Lib.hid h
  clear h
  have hmin : min most l ≤ l := Int.min_le_right _ _
  have hmin0 : 0 ≤ min most l := by omega
  have hmin1 : min most l ≤ most := Int.min_le_left _ _
  have hlt : decide (most < 0) = false := by simpa using hm
  go_enter Try.func14, Try.ntmps14
  go_wp2_with fail
  go_step3
  go_wp2_with (first | (go_at_call 35; refine (wNone_any HH.out).mono ?_; rintro e w' ⟨rfl, rfl⟩) | (go_at_call 36; refine (cLeft_any HH.out).mono ?_; rintro e w' ⟨rfl, rfl⟩) | (go_at_call 41; refine (cGoes_any HH.out (min most l) hmin0 hmin hl hg hg2).mono ?_; rintro e w' ⟨⟨v, rfl⟩, hw, hk⟩; have hw := Lib.hid hw; have hk := Lib.hid hk))
  rw [Exit.noGoto_ret]
  go_ret2
  exact ⟨rfl, hw.out, hk.out⟩
end Go.Proofs.Ytcahmhenlpplcaa
