/-
  The window's Share: the closures, the loops.
-/
import Derived.Test.YtcahmhenlpplcaaWin
namespace Go.Proofs.Ytcahmhenlpplcaa
open Go.RowKit

theorem ty47 : SlTy Try.prog 47 3 1 8 := SlTy.mk_ (z := .int .i64 0) Try.underlying47 (by kernel_rfl) rfl

/-- How pieces share. -/
def shares : Int → List Int → List Int
  | _, [] => []
  | l, x :: xs => min x l :: shares (l - min x l) xs
def sharesLeft : Int → List Int → Int
  | l, [] => l
  | l, x :: xs => sharesLeft (l - min x l) xs
theorem shares_snoc (xs : List Int) (x : Int) : ∀ l, shares l (xs ++ [x]) = shares l xs ++ [min x (sharesLeft l xs)] := by
  induction xs with
  | nil => intro l; rfl
  | cons y ys ih => intro l; simp [shares, sharesLeft, ih]
theorem sharesLeft_snoc (xs : List Int) (x : Int) : ∀ l, sharesLeft l (xs ++ [x]) = sharesLeft l xs - min x (sharesLeft l xs) := by
  induction xs with
  | nil => intro l; rfl
  | cons y ys ih => intro l; simp [sharesLeft, ih]
theorem shares_len (xs : List Int) : ∀ l, (shares l xs).length = xs.length := by
  induction xs with
  | nil => intro l; rfl
  | cons y ys ih => intro l; simp [shares, ih]
theorem sharesLeft_bd (xs : List Int) (h : ∀ x ∈ xs, 0 ≤ x) : ∀ l, 0 ≤ l → 0 ≤ sharesLeft l xs ∧ sharesLeft l xs ≤ l := by
  induction xs with
  | nil => intro l hl; exact ⟨hl, by simp [sharesLeft]⟩
  | cons y ys ih =>
    intro l hl
    have hy := h y (by simp)
    have := ih (fun x hx => h x (by simp [hx])) (l - min y l) (by omega)
    simp only [sharesLeft]
    omega

theorem share1_any (n : Int) (w : World) (hn : 0 ≤ n) : Calls Try.prog 38 #[.int .i64 n] w (Ends fun e w' => e = .returned (.bool false) ∧ w = w') := by
  have hlt : decide (n < 0) = false := by simpa using hn
  go_enter Try.func38, Try.ntmps38
  go_wp2
  go_ret
  exact ⟨rfl, rfl⟩

theorem share2_any (n left : Int) (B : Nat) (w : World) (hB : Blk w B 24 #[.int .u64 left]) (hn : 0 ≤ n) (hn2 : n ≤ 1099511627776) (hl : 0 ≤ left) (hl2 : left ≤ 1099511627776) :
    Calls Try.prog 40 #[.int .i64 n, .pointer (some ⟨B, 0, none⟩)] w (Ends fun e w' => e = .returned (.int .i64 (min n left)) ∧ w.setCell ⟨B, 0, none⟩ (.int .u64 (left - min n left)) = w') := by
  have h0 : w.cell? ⟨B, 0, none⟩ = some (.int .u64 left) := hB.cell 0
  have f0 := hB.frozen 0
  have HH := Lib.hid hB
  clear hB
  have m1 : min n left ≤ left := Int.min_le_right _ _
  have m2 : min n left ≤ n := Int.min_le_left _ _
  have m3 : 0 ≤ min n left := by omega
  go_enter Try.func40, Try.ntmps40
  go_wp2
  go_ret
  exact ⟨rfl, rfl⟩

/-- No element is negative. -/
theorem indexI_any (xs : List Int) (v : Value) (ok : Nat → Prop) (w : World) (hs : Sees w ok 1 v xs.length (ints .i64 xs)) (h0 : ∀ x ∈ xs, 0 ≤ x) :
    Calls Try.prog 56 #[v, .func (.func 38) #[] #[]] w (Ends fun e w' => e = .returned (.int .i64 (-1)) ∧ w = w') := by
  obtain ⟨A, c, rfl, h1, h2, h3, h4⟩ := hs
  have H4 := Lib.hid h4
  have H0 := Lib.hid h0
  have H3 := Lib.hid h3
  clear h4 h0 h3
  go_enter Try.func56, Try.ntmps56
  go_wp2_with fail
  go_loop [5, 8] (fun _ i => ∃ k : Nat, k ≤ xs.length ∧ i = .int .i64 k) (fun _ i => xs.length - (intOf i).toNat)
  case atStart => exact ⟨0, Nat.zero_le _, rfl⟩
  case round =>
    obtain ⟨k, hk, rfl⟩ := hrel
    by_cases hlt : k < xs.length
    · obtain ⟨g, off, rfl, hg, hgl, hc⟩ := H4.out (by omega)
      have hc1 : w.cell? ⟨g, off + k, none⟩ = some (.int .i64 xs[k]) := hc k _ (by simp [ints_get, hlt])
      have hx := H0.out xs[k] (List.getElem_mem _)
      clear hc
      go_wp2_with (first | (go_at_call 38; refine (share1_any _ _ hx).mono ?_; rintro e w' ⟨rfl, rfl⟩))
      go_round
      case rel => exact ⟨k + 1, by omega, by go_num⟩
      case measure => simp [intOf]; omega
    · go_wp2_with fail
      go_ret
      exact ⟨rfl, rfl⟩

theorem containsI_any (xs : List Int) (v : Value) (ok : Nat → Prop) (w : World) (hs : Sees w ok 1 v xs.length (ints .i64 xs)) (h0 : ∀ x ∈ xs, 0 ≤ x) :
    Calls Try.prog 37 #[v, .func (.func 38) #[] #[]] w (Ends fun e w' => e = .returned (.bool false) ∧ w = w') := by
  have HS := Lib.hid hs
  have H0 := Lib.hid h0
  clear hs h0
  go_enter Try.func37, Try.ntmps37
  go_wp2_with (first | (go_at_call 56; refine (indexI_any xs v ok _ HS.out H0.out).mono ?_; rintro e w' ⟨rfl, rfl⟩))
  go_ret
  exact ⟨rfl, rfl⟩

/-- Each piece gets what it can; the box holds what is left. -/
theorem each_any (xs : List Int) (v : Value) (ok : Nat → Prop) (left : Int) (B : Nat) (w : World) (hB : Blk w B 24 #[.int .u64 left]) (hs : Sees w ok 1 v xs.length (ints .i64 xs)) (hok : ∀ k, ok k → k ≠ B)
    (h0 : ∀ x ∈ xs, 0 ≤ x ∧ x ≤ 1099511627776) (hl : 0 ≤ left) (hl2 : left ≤ 1099511627776) (hlen : xs.length ≤ 1048576) :
    Calls Try.prog 39 #[.func (.func 40) #[] #[.pointer (some ⟨B, 0, none⟩)], v] w (Ends fun e w' =>
      ∃ r, e = .returned r ∧ Row w' 3 1 r xs.length (ints .i64 (shares left xs)) ∧ (∀ k, some k = r.ownBlock → w.heap.size ≤ k) ∧ Keep (fun k => k = B) w w') := by
  obtain ⟨A, c, rfl, h1, h2, h3, h4⟩ := hs
  have H4 := Lib.hid h4
  have H0 := Lib.hid h0
  have H3 := Lib.hid h3
  have HB := Lib.hid hB
  have HO := Lib.hid hok
  clear h4 h0 h3 hB hok
  go_enter Try.func39, Try.ntmps39
  go_wp2_with fail
  go_loopw [4, 6, 9] (fun o' _ i wr => ∃ (k : Nat) (o : Value), k ≤ xs.length ∧ i = .int .i64 k ∧ o = o' ∧ Row wr 3 1 o k (ints .i64 (shares left (xs.take k))) ∧ Blk wr B 24 #[.int .u64 (sharesLeft left (xs.take k))] ∧
      (∀ k, some k = o.ownBlock → w.heap.size ≤ k) ∧ Keep (fun k => k = B) w wr) (fun _ _ i _ => xs.length - (intOf i).toNat)
  case atStart => exact ⟨0, _, Nat.zero_le _, rfl, rfl, Row.nil _ _ _, HB.out, by simp [Value.ownBlock], Keep.refl _ _⟩
  case round =>
    obtain ⟨k, o, hk, rfl, rfl, hrow, hbox, hown, hkeep⟩ := hrel
    have HR := Lib.hid hrow
    have HX := Lib.hid hbox
    have HW := Lib.hid hown
    have HK := Lib.hid hkeep
    clear hrow hbox hown hkeep
    by_cases hlt : k < xs.length
    · obtain ⟨g, off, rfl, hg, hgl, hc⟩ := H4.out (by omega)
      have hc1 : wr.cell? ⟨g, off + k, none⟩ = some (.int .i64 xs[k]) := HK.out.cell (hc k _ (by simp [ints_get, hlt])) (HO.out g hg)
      obtain ⟨hx, hx2⟩ := H0.out xs[k] (List.getElem_mem _)
      obtain ⟨hsl, hsl2⟩ := sharesLeft_bd (xs.take k) (fun x hx => (H0.out x (List.mem_of_mem_take hx)).1) left hl
      have hsl3 : sharesLeft left (xs.take k) ≤ 1099511627776 := by omega
      clear hc
      have hne : ∀ j, some j = o.ownBlock → ¬ j = B := fun j hj e => HR.out.ne_blk HX.out (by decide) (e ▸ hj)
      have HN := Lib.hid hne
      clear hne
      go_wp2_with (first | (go_at_call 40; refine (share2_any _ _ B _ HX.out hx hx2 hsl hsl3).mono ?_; rintro e w' ⟨rfl, rfl⟩) | (at_builtin; go_must (refine wpList_append_row rfl _ _ 47 rfl ty47 (v := o) (n := k) (xs := ints .i64 (shares left (xs.take k))) rfl ?hrow _ _ _ [.int .i64 (min xs[k] (sharesLeft left (xs.take k)))] rfl ?hsrc ?h63 ?hb ?_; (case hrow => exact HR.out.keep (((Keep.refl (fun j => j = B) wr).setCell (fun _ => rfl) _).alloc _) HN.out); (case hsrc => exact Src.lit (heap_alloc_at _ _ _ (by simp)) rfl (by simp [Value.oneCell'])); (case h63 => simp only [Go.maxLen]; omega); (case hb => omega); intro v1 w1 hr1 hk1 ho1; have R1 := Lib.hid hr1; have K1 := Lib.hid hk1; have O1 := Lib.hid ho1; clear hr1 hk1 ho1)))
      have ht := List.take_succ_eq_append_getElem hlt
      have hK : Keep (fun j => j = B) w w1 := (((HK.out.setCell (fun _ => rfl) _).alloc _).then K1.out (fun i hi he => by have := HW.out i he; omega))
      have hb1 : Blk w1 B 24 #[.int .u64 (sharesLeft left (xs.take (k + 1)))] := by
        rw [ht, sharesLeft_snoc]
        exact ((HX.out.set_ 0 _).alloc _).keep K1.out (fun e => HN.out B e rfl)
      have hr1 : Row w1 3 1 v1 (k + 1) (ints .i64 (shares left (xs.take (k + 1)))) := by
        rw [ht, shares_snoc, ints_append]
        exact R1.out
      have ho1 : ∀ j, some j = v1.ownBlock → w.heap.size ≤ j := by
        intro j hj
        rcases O1.out with h | h
        · exact HW.out j (hj.trans h)
        · rw [h] at hj
          injection hj with hj
          have := HK.out.size
          simp at hj
          omega
      have A1 := Lib.hid hr1
      have A2 := Lib.hid hb1
      have A3 := Lib.hid ho1
      have A4 := Lib.hid hK
      clear ht hK hb1 hr1 ho1
      go_roundw
      case rel => exact ⟨k + 1, v1, by omega, by go_num, rfl, A1.out, A2.out, A3.out, A4.out⟩
      case measure => simp [intOf]; omega
    · go_wp2_with fail
      go_ret
      obtain rfl : k = xs.length := by omega
      have h := HR.out
      rw [List.take_length] at h
      exact ⟨_, rfl, h, HW.out, HK.out⟩

theorem wShare_any {b : Nat} {l g : Int} {sh : Bool} {w : World} (hw : Win w b l g sh) (hl : 0 ≤ l) (hl2 : l ≤ 1099511627776) (xs : List Int) (v : Value) (ok : Nat → Prop) (hs : Sees w ok 1 v xs.length (ints .i64 xs))
    (h0 : ∀ x ∈ xs, 0 ≤ x ∧ x ≤ 1099511627776) (hlen : xs.length ≤ 1048576) :
    Calls Try.prog 13 #[.pointer (some ⟨b, 0, none⟩), v] w (Ends fun e w' =>
      ∃ r, e = .returned (.tuple #[r, .int .i64 0]) ∧ Row w' 3 1 r xs.length (ints .i64 (shares l xs)) ∧ (∀ k, some k = r.ownBlock → w.heap.size ≤ k) ∧ Below w.heap.size w w') := by
  have HW := Lib.hid hw
  have HS := Lib.hid hs
  have H0 := Lib.hid h0
  have hC := Lib.hid (containsI_any xs v ok w hs (fun x hx => (h0 x hx).1))
  have hE := Lib.hid (each_any xs v (fun k => ok k ∧ k < w.heap.size) l w.heap.size (w.alloc (.cells #[.int .u64 l] 24)) (Blk.new _ _ _)
    ((hs.mono (fun k h1 h2 => ⟨h1, h2⟩)).keep ((Keep.refl (fun _ => False) w).alloc _) (fun _ _ _ h => h)) (fun k h e => by have := h.2; omega) h0 hl hl2 hlen)
  obtain ⟨A, c, rfl, h1, h2, h3, h4⟩ := hs
  clear hw h0 h3 h4
  go_enter Try.func13, Try.ntmps13
  go_wp2_with (first | (go_at_call 35; refine (wNone_any HW.out).mono ?_; rintro e w' ⟨rfl, rfl⟩) | (go_at_call 36; refine (cLeft_any HW.out).mono ?_; rintro e w' ⟨rfl, rfl⟩) | (go_at_call 37; refine hC.out.mono ?_; rintro e w' ⟨rfl, rfl⟩) | (go_at_call 39; go_must (refine hE.out.mono ?_; rintro e w' ⟨r, rfl, hr, ho, hk⟩; have R := Lib.hid hr; have O := Lib.hid ho; have K := Lib.hid hk; clear hr ho hk)))
  go_ret2
  refine ⟨r, rfl, R.out, fun k hk => ?_, ?_⟩
  · have := O.out k hk
    simp at this
    omega
  · have h := ((Keep.refl (fun k => k = w.heap.size) w).alloc (.cells #[.int .u64 l] 24)).trans K.out
    exact h.below (Nat.le_refl _) (fun k hk => by omega)
end Go.Proofs.Ytcahmhenlpplcaa
