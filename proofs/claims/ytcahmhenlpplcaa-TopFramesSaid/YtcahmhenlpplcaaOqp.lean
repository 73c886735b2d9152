/-
  The queue of frames: Push, Take, Clear, New, All.
-/
import Derived.Test.YtcahmhenlpplcaaQueue
namespace Go.Proofs.Ytcahmhenlpplcaa
open Go.RowKit

/-- What a queue is turned to: its lengths, the part that went, its bytes. -/
def OqTo (w : World) (b c : Nat) (vI vB : Value) (ls : List Int) (part : Int) (data : List Int) (room : Int) (limI limB : Nat) (w' : World) : Prop :=
  ∃ vI' vB' lens' gI' all' gB', Oq w' b c vI' vB' lens' gI' part all' gB' room ∧ lens'.drop gI' = ls ∧ all'.drop gB' = data ∧ lens'.length ≤ limI ∧ all'.length ≤ limB ∧
    Keep (OqS b c vI vB) w w' ∧ (∀ k, some k = vI'.ownBlock → some k = vI.ownBlock ∨ w.heap.size ≤ k) ∧ (∀ k, some k = vB'.ownBlock → some k = vB.ownBlock ∨ w.heap.size ≤ k)

/-- Is there a part? -/
def oneIf (part : Int) : Int := if 0 < part then 1 else 0
def lensOf (fr : List (List Int)) : List Int := fr.map fun x => (x.length : Int)
theorem lensOf_len (fr : List (List Int)) : (lensOf fr).length = fr.length := by simp [lensOf]

section
variable {b c gI gB : Nat} {vI vB : Value} {lens all : List Int} {part room : Int} {w : World}
theorem oqPush_empty (h : Oq w b c vI vB lens gI part all gB room) (pv : Value) (fr : List (List Int)) (ok : Nat → Prop) (hf : Frs w ok pv fr) (hfl : fr.length ≤ 1048576) (he : hasEmpty fr = true) :
    Calls Try.prog 11 #[.pointer (some ⟨b, 0, none⟩), pv] w (Ends fun e w' => e = .returned (.int .i64 2) ∧ w = w') := by
  have HH := Lib.hid h
  have HF := Lib.hid hf
  clear h hf
  go_enter Try.func11, Try.ntmps11
  go_wp2_with fail
  refine wp_scope_fwd 0 (by rfl) ?_
  go_wp2_with (first | (go_at_call 28; refine (oqNone_any HH.out).mono ?_; rintro e w' ⟨rfl, rfl⟩) | (go_at_call 29; go_must (refine (containsB_any fr pv ok _ HF.out hfl).mono ?_; rw [he]; rintro e w' ⟨rfl, rfl⟩)))
  go_step3
  refine ⟨rfl, ?_⟩
  go_wp2_with fail
  rw [Exit.noGoto_ret]
  go_ret
  exact ⟨rfl, rfl⟩

theorem oqPush_full (h : Oq w b c vI vB lens gI part all gB room) (pv : Value) (fr : List (List Int)) (ok : Nat → Prop) (hf : Frs w ok pv fr) (hfl : fr.length ≤ 1048576) (he : hasEmpty fr = false)
    (hal : total fr ≤ 1048576) (hfit : room < ((all.length - gB : Nat) : Int) + total fr) :
    Calls Try.prog 11 #[.pointer (some ⟨b, 0, none⟩), pv] w (Ends fun e w' => e = .returned (.int .i64 120) ∧ ∃ m, w' = w.drewN m) := by
  have h3 := h.c3
  have HH := Lib.hid h
  have HF := Lib.hid hf
  clear h hf
  go_enter Try.func11, Try.ntmps11
  go_wp2_with fail
  refine wp_scope_fwd 0 (by rfl) ?_
  go_wp2_with (first | (go_at_call 28; refine (oqNone_any HH.out).mono ?_; rintro e w' ⟨rfl, rfl⟩) | (go_at_call 29; go_must (refine (containsB_any fr pv ok _ HF.out hfl).mono ?_; rw [he]; rintro e w' ⟨rfl, rfl⟩)) | (go_at_call 31; go_must (refine (bqPush_full HH.out.bq pv fr ok HF.out hal hfl HH.out.r0 HH.out.r1 hfit).mono ?_; rintro e w' ⟨rfl, m, rfl⟩)))
  go_step3
  refine ⟨rfl, ?_⟩
  go_wp2_with fail
  rw [Exit.noGoto_ret]
  go_ret
  exact ⟨rfl, m, rfl⟩

theorem oqPush_ok (h : Oq w b c vI vB lens gI part all gB room) (pv : Value) (fr : List (List Int)) (ok : Nat → Prop) (hf : Frs w ok pv fr) (hok : ∀ k, ok k → ¬ OqS b c vI vB k) (hfl : fr.length ≤ 1048576) (he : hasEmpty fr = false)
    (hal : all.length + total fr ≤ 1048576) (hll : lens.length + fr.length ≤ 1048576) (hx : ∀ x ∈ fr, x.length ≤ 1048576) (hfit : ((all.length - gB : Nat) : Int) + total fr ≤ room) :
    Calls Try.prog 11 #[.pointer (some ⟨b, 0, none⟩), pv] w (Ends fun e w' => e = .returned (.int .i64 0) ∧
      OqTo w b c vI vB (lens.drop gI ++ lensOf fr) part (all.drop gB ++ fr.flatten) room (lens.length + fr.length) (all.length + total fr) w') := by
  have h3 := h.c3
  have HH := Lib.hid h
  have HF := Lib.hid hf
  have HK := Lib.hid hok
  have HX := Lib.hid hx
  have HN := Lib.hid h.ne
  have hokB : ∀ k, ok k → k ≠ c ∧ ¬ some k = vB.ownBlock := fun k hk => ⟨fun e => HK.out k hk (.inr (.inl e)), fun e => HK.out k hk (.inr (.inr (.inr e)))⟩
  have HKB := Lib.hid hokB
  clear h hf hok hx hokB
  go_enter Try.func11, Try.ntmps11
  go_wp2_with fail
  go_step3
  go_wp2_with (first | (go_at_call 28; refine (oqNone_any HH.out).mono ?_; rintro e w' ⟨rfl, rfl⟩) | (go_at_call 29; go_must (refine (containsB_any fr pv ok _ HF.out hfl).mono ?_; rw [he]; rintro e w' ⟨rfl, rfl⟩)) | (go_at_call 31; go_must (refine (bqPush_ok HH.out.bq pv fr ok HF.out HKB.out hal hfl HH.out.r0 HH.out.r1 hfit).mono ?_; rintro e w1 ⟨rfl, m, hp⟩; have HP := Lib.hid hp; clear hp)))
  obtain ⟨vB1, all1, gB1, hB1, hd1, hl1, hk1, ho1⟩ := HP.out
  have hF1 := (HF.out.drewN m).keep hk1 (fun k hk _ e => (HKB.out k hk).elim (fun e1 e2 => e.elim e1 e2))
  have hL1 := (HH.out.ln.drewN m).keep hk1 (fun e => e.elim HN.out HH.out.ne_bB) (fun k hk e => e.elim (fun e => HH.out.ne_cI (e ▸ hk)) (HH.out.ne_IB k hk))
  have F1 := Lib.hid hF1
  have L1 := Lib.hid hL1
  have B1 := Lib.hid hB1
  have D1 := Lib.hid hd1
  have G1 := Lib.hid hl1
  have K1 := Lib.hid hk1
  have O1 := Lib.hid ho1
  clear hF1 hL1 hB1 hd1 hl1 hk1 ho1 h3
  go_region_law (first | (go_simp; go_at_call 33; go_must (refine (foldI_any fr pv ok _ (F1.out.drewN _) hfl).mono ?_; rintro e w2 ⟨r, rfl, hr, ho, hb⟩; have R2 := Lib.hid hr; have O2 := Lib.hid ho; have W2 := Lib.hid hb; clear hr ho hb)) | (go_simp; go_at_call 32; go_must (refine (lnPut_any ((L1.out.drewN _).keep (Keep.of_below W2.out) (S := fun _ => False) (fun h => h) (fun _ _ h => h)) r (lensOf fr) (fun k => some k = r.ownBlock) ?hs ?hk ?hl).mono ?_; (case hs => rw [lensOf_len]; exact R2.out.sees (fun _ h => h)); (case hk => intro k hk; have h1 : w1.heap.size ≤ k := O2.out k hk; have h2 := L1.out.blk.lt; exact ⟨by omega, fun e => by have h3 := L1.out.row.lt k e; omega⟩); (case hl => rw [lensOf_len]; exact hll); rintro e w3 ⟨⟨x, rfl⟩, hp⟩; have P3 := Lib.hid hp; clear hp)))
  all_goals
    go_wp2_with fail
    rw [Exit.noGoto_ret]
    go_ret
    obtain ⟨vI3, lens3, gI3, hL3, hd3, hl3, hk3, ho3⟩ := P3.out
    have hb2 := W2.out
    have hkp : Keep (OqS b c vI vB) w w1 := ((Keep.refl (OqS b c vI vB) w).drewN m).then K1.out (fun k _ h => h.elim (fun e => .inr (.inl e)) (fun e => .inr (.inr (.inr e))))
    have hk2 : Keep (fun _ => False) w1 w2 := ((Keep.refl (fun _ => False) w1).drewN 1).trans (Keep.of_below hb2)
    have hkp2 : Keep (OqS b c vI vB) w w2 := hkp.then hk2 (fun _ _ h => h.elim)
    have hne : ∀ k, some k = vB1.ownBlock → ¬ (k = b ∨ some k = vI.ownBlock) := fun k hk e => e.elim (fun e => B1.out.row.ne_blk L1.out.blk (by decide) (e ▸ hk)) (fun e => B1.out.row.ne_row L1.out.row (by decide) k hk e)
    refine ⟨rfl, vI3, vB1, lens3, gI3, all1, gB1, ⟨hL3, ?_, ?_, HH.out.p0, HH.out.p1, HH.out.r0, HH.out.r1⟩, hd3, D1.out, ?_, G1.out, hkp2.then hk3 (fun k _ h => h.elim .inl (fun e => .inr (.inr (.inl e)))), fun k hk => (ho3 k hk).elim .inl (fun h => .inr (Nat.le_trans hkp2.size h)), O1.out⟩
    · exact (B1.out.keep hk2 (fun h => h) (fun _ _ h => h)).keep hk3 (fun e => e.elim (fun e => HN.out e.symm) (fun e => HH.out.ne_cI e)) hne
    · intro x hx
      rw [hd3, List.mem_append] at hx
      rcases hx with hx | hx
      · exact HH.out.lb x hx
      · simp only [lensOf, List.mem_map] at hx
        obtain ⟨y, hy, rfl⟩ := hx
        have := HX.out y hy
        omega
    · rwa [lensOf_len] at hl3

theorem bqPeek_neg {gone : Nat} {v : Value} (h : Bq w b v all gone room) (most : Int) (h0 : most < 0) :
    Calls Try.prog 58 #[.pointer (some ⟨b, 0, none⟩), .int .i64 most] w (Ends fun e w' => e = .returned (.tuple #[.slice none 0 0, .int .i64 2]) ∧ w = w') := by
  have HH := Lib.hid h
  clear h
  go_enter Try.func58, Try.ntmps58
  go_wp2_with (first | (go_at_call 52; refine (bqNone_any HH.out).mono ?_; rintro e w' ⟨rfl, rfl⟩))
  go_ret2
  exact ⟨rfl, rfl⟩
theorem bqTake_neg {gone : Nat} {v : Value} (h : Bq w b v all gone room) (most : Int) (h0 : most < 0) :
    Calls Try.prog 42 #[.pointer (some ⟨b, 0, none⟩), .int .i64 most] w (Ends fun e w' => e = .returned (.tuple #[.slice none 0 0, .int .i64 2]) ∧ w = w') := by
  have HH := Lib.hid h
  clear h
  go_enter Try.func42, Try.ntmps42
  go_wp2_with (first | (go_at_call 58; refine (bqPeek_neg HH.out most h0).mono ?_; rintro e w' ⟨rfl, rfl⟩))
  go_ret2
  exact ⟨rfl, rfl⟩

theorem oqTake_neg (h : Oq w b c vI vB lens gI part all gB room) (most : Int) (h0 : most < 0) :
    Calls Try.prog 15 #[.pointer (some ⟨b, 0, none⟩), .int .i64 most] w (Ends fun e w' => e = .returned (.tuple #[.slice none 0 0, .int .i64 0, .int .i64 2]) ∧ w = w') := by
  have h3 := h.c3
  have HH := Lib.hid h
  clear h
  go_enter Try.func15, Try.ntmps15
  go_wp2_with (first | (go_at_call 28; refine (oqNone_any HH.out).mono ?_; rintro e w' ⟨rfl, rfl⟩) | (go_at_call 42; go_must (refine (bqTake_neg HH.out.bq most h0).mono ?_; rintro e w' ⟨rfl, rfl⟩)))
  go_ret3
  exact ⟨rfl, rfl⟩

theorem oqTake_any (h : Oq w b c vI vB lens gI part all gB room) (hal : all.length ≤ 1048576) (hll : lens.length ≤ 1048576) (most : Int) (h0 : 0 ≤ most) (hp : part + ((all.length - gB : Nat) : Int) ≤ 1048576)
    (hg : ∀ p, p ≤ 1048576 → 0 ≤ p → 0 ≤ (goesTo (lens.drop gI) p).2 ∧ (goesTo (lens.drop gI) p).2 ≤ 1048576) :
    Calls Try.prog 15 #[.pointer (some ⟨b, 0, none⟩), .int .i64 most] w (Ends fun e w' => ∃ r, e = .returned (.tuple #[r, .int .i64 ((goesTo (lens.drop gI) (part + tk most (all.length - gB))).1 : Nat), .int .i64 0]) ∧
      Row w' 5 1 r (tk most (all.length - gB)) (ints .u8 ((all.drop gB).take (tk most (all.length - gB)))) ∧ (∀ k, some k = r.ownBlock → w.heap.size ≤ k) ∧
      OqTo w b c vI vB ((lens.drop gI).drop (goesTo (lens.drop gI) (part + tk most (all.length - gB))).1) (goesTo (lens.drop gI) (part + tk most (all.length - gB))).2 ((all.drop gB).drop (tk most (all.length - gB))) room lens.length all.length w') := by
  have h3 := h.c3
  have ht := tk_le most (all.length - gB)
  have hT := bqTake_any h.bq hal most h0
  have hp0 := h.p0
  have HT := Lib.hid hT
  have HG := Lib.hid hg
  have HH := Lib.hid h
  clear h hT hg
  generalize tk most (all.length - gB) = t at *
  go_enter Try.func15, Try.ntmps15
  go_wp2_with (first | (go_at_call 28; refine (oqNone_any HH.out).mono ?_; rintro e w' ⟨rfl, rfl⟩) | (go_at_call 42; go_must (refine HT.out.mono ?_; rintro e w1 ⟨r, rfl, hr, ho, hb, hk⟩; obtain ⟨A, cr, rfl⟩ := hr.slice; have L1 := Lib.hid (HH.out.ln.keep hk HH.out.ne (fun k hk e => HH.out.ne_cI (e ▸ hk))); have R1 := Lib.hid hr; have O1 := Lib.hid ho; have B1 := Lib.hid hb; have K1 := Lib.hid hk; clear hr ho hb hk)) | (go_at_call 43; go_must (refine (lnGoes_any L1.out t hll HH.out.p0 (by omega) (by omega) HH.out.lb).mono ?_; rintro e w2 ⟨rfl, hl, hk⟩; have L2 := Lib.hid hl; have K2 := Lib.hid hk; clear hl hk)))
  go_ret3
  have hg := HG.out (part + t) (by omega) (by omega)
  generalize goesTo (lens.drop gI) (part + t) = g at *
  have hlt : ∀ k, some k = (Value.slice A t cr).ownBlock → ¬ k = b := fun k hk e => by
    have h1 := O1.out k hk
    have h2 := HH.out.ln.blk.lt
    omega
  refine ⟨_, rfl, R1.out.keep K2.out hlt, O1.out, vI, vB, lens, gI + g.1, all, gB + t, ⟨L2.out, B1.out.keep K2.out (fun e => HH.out.ne e.symm) (fun k hk e => HH.out.ne_bB (e ▸ hk)), ?_, hg.1, hg.2, HH.out.r0, HH.out.r1⟩, by rw [List.drop_drop], by rw [List.drop_drop], Nat.le_refl _, Nat.le_refl _, ?_, fun k hk => .inl hk, fun k hk => .inl hk⟩
  · intro x hx
    rw [← List.drop_drop] at hx
    exact HH.out.lb x (List.mem_of_mem_drop hx)
  · exact (K1.out.mono (fun k _ e => .inr (.inl e))).then K2.out (fun k _ e => .inl e)
end

theorem oqNew_any (room : Int) (w : World) (h0 : 0 ≤ room) (h1 : room ≤ 1048576) :
    Calls Try.prog 6 #[.int .i64 room] w (Ends fun e w' => ∃ b c, e = .returned (.tuple #[.pointer (some ⟨b, 0, none⟩), .int .i64 0]) ∧ w.heap.size ≤ b ∧ w.heap.size ≤ c ∧
      Oq w' b c (.slice none 0 0) (.slice none 0 0) [] 0 0 [] 0 room ∧ Below w.heap.size w w') := by
  go_enter Try.func6, Try.ntmps6
  go_wp2_with (first | (go_at_call 27; go_must (refine (bqNew_any room _ h0 h1).mono ?_; rintro e w1 ⟨rfl, hb, hk⟩; have B1 := Lib.hid hb; have K1 := Lib.hid hk; clear hb hk)))
  go_ret2
  have hk2 : Below w.heap.size w1 (w1.alloc (.cells #[.slice none 0 0, .int .i64 0, .int .i64 0, .pointer (some ⟨w.heap.size, 0, none⟩), .int .i64 room] 68)) := (Below.refl _ _).alloc K1.out.size _
  refine ⟨_, _, rfl, K1.out.size, Nat.le_refl _, ⟨⟨Blk.new _ _ _, Row.nil _ _ _, Nat.le_refl _⟩, ?_, by simp, by decide, by decide, h0, h1⟩, K1.out.trans hk2⟩
  exact B1.out.keep ((Keep.refl (fun _ => False) w1).alloc _) (fun h => h) (by simp [Value.ownBlock])

section
variable {b c gI gB : Nat} {vI vB : Value} {lens all : List Int} {part room : Int} {w : World}
theorem oqClear_any (h : Oq w b c vI vB lens gI part all gB room) (hal : all.length ≤ 1048576) (hll : lens.length ≤ 1048576) :
    Calls Try.prog 18 #[.pointer (some ⟨b, 0, none⟩)] w (Ends fun e w' => e = .returned (.tuple #[.int .i64 (((lens.length - gI : Nat) : Int) - oneIf part), .int .i64 ((all.length - gB : Nat) : Int)]) ∧
      OqTo w b c vI vB [] 0 [] room 0 all.length w') := by
  have h3 := h.c3
  have HH := Lib.hid h
  clear h
  go_enter Try.func18, Try.ntmps18
  go_upto_region 3 with (first | (go_at_call 28; refine (oqNone_any HH.out).mono ?_; rintro e w' ⟨rfl, rfl⟩))
  go_cut [4] (fun t wx => ∃ B, t = .pointer (some ⟨B, 0, none⟩) ∧ w.heap.size ≤ B ∧ Oq wx b c vI vB lens gI part all gB room ∧ Blk wx B 86 #[.int .i64 ((lens.length - gI : Nat) : Int), .int .i64 ((all.length - gB : Nat) : Int)] ∧ Keep (fun _ => False) w wx)
  case first =>
    go_wp2_with (first | (go_at_call 20; go_must (refine (oqFrames_any HH.out).mono ?_; rintro e w' ⟨rfl, m1, rfl⟩)) | (go_at_call 19; go_must (refine (oqLen_any (HH.out.drewN _)).mono ?_; rintro e w1 ⟨rfl, m2, hw⟩; have Q1 := Lib.hid (show Oq w1 b c vI vB lens gI part all gB room by rw [hw]; exact (HH.out.drewN _).drewN _); have W1 := Lib.hid (show Keep (fun _ => False) w w1 by rw [hw]; exact ((Keep.refl (fun _ => False) w).drewN _).drewN _); clear hw)))
    go_meet
    have hk : Keep (fun _ => False) w1 (w1.alloc (.cells #[.int .i64 ((lens.length - gI : Nat) : Int), .int .i64 ((all.length - gB : Nat) : Int)] 86)) := (Keep.refl (fun _ => False) w1).alloc _
    exact ⟨_, rfl, W1.out.size, Q1.out.keep hk (fun h => h) (fun h => h) (fun _ _ h => h) (fun _ _ h => h), Blk.new _ _ _, W1.out.trans hk⟩
  case rest =>
    obtain ⟨B, rfl, hB, hq, hb, hk⟩ := hcut
    have q3 := hq.c3
    have q2 := hq.ln.c2
    have b0 := hb.cell 0
    have b1 := hb.cell 1
    have bf0 := hb.frozen 0
    have hbB : b ≠ B := hq.ln.blk.ne hb (by decide)
    have hcB : c ≠ B := hq.bq.blk.ne hb (by decide)
    have HQ := Lib.hid hq
    have HB := Lib.hid hb
    have HK := Lib.hid hk
    clear hq hb hk
    go_upto_if 17 with fail
    go_cut [] (fun wx => Oq wx b c vI vB lens gI part all gB room ∧ Blk wx B 86 #[.int .i64 (((lens.length - gI : Nat) : Int) - oneIf part), .int .i64 ((all.length - gB : Nat) : Int)] ∧ Keep (fun _ => False) w wx)
    case first =>
      by_cases hp : 0 < part
      · go_wp2_with fail
        go_meet
        have hk : Keep (fun k => k = B) wc (wc.setCell ⟨B, 0, none⟩ (.int .i64 (((lens.length - gI : Nat) : Int) - 1))) := (Keep.refl (fun k => k = B) wc).setCell (fun _ => rfl) _
        refine ⟨HQ.out.keep hk hbB hcB (fun k hk e => HQ.out.ln.row.ne_blk HB.out (by decide) (e ▸ hk)) (fun k hk e => HQ.out.bq.row.ne_blk HB.out (by decide) (e ▸ hk)), ?_, HK.out.setCell (fun h => by simp at h; omega) _⟩
        rw [show oneIf part = 1 from if_pos hp]
        exact HB.out.set_ 0 (.int .i64 (((lens.length - gI : Nat) : Int) - 1))
      · go_wp2_with fail
        go_meet
        rw [show oneIf part = 0 from if_neg (by omega), Int.sub_zero]
        exact ⟨HQ.out, HB.out, HK.out⟩
    case rest =>
      clear q3 q2 b0 b1 bf0 HQ HB HK
      obtain ⟨hq, hb, hk⟩ := hcut
      have q3 := hq.c3
      have b1 := hb.cell 1
      have hD := fun n => bqDrop_any (hq.bq.drewN n) hal ((all.length - gB : Nat) : Int) (by omega)
      rw [show tk ((all.length - gB : Nat) : Int) (all.length - gB) = all.length - gB from by unfold tk; omega] at hD
      have HQ := Lib.hid hq
      have HB := Lib.hid hb
      have HK := Lib.hid hk
      have HD := Lib.hid hD
      clear hq hb hk hD
      go_wp2_with fail
      go_region_law (first | (go_simp; go_at_call 44; go_must (refine (HD.out _).mono ?_; rintro e w2 ⟨⟨x, rfl⟩, hb2, hk2⟩; have L2 := Lib.hid ((HQ.out.ln.drewN _).keep hk2 HQ.out.ne (fun k hk e => HQ.out.ne_cI (e ▸ hk))); have b20 := ((HB.out.drewN _).keep hk2 (Ne.symm hcB)).cell 0; have b21 := ((HB.out.drewN _).keep hk2 (Ne.symm hcB)).cell 1; have e0 := L2.out.c0; have e1 := L2.out.c1; have e2 := L2.out.c2; have d0 := L2.out.blk.frozen 0; have d1 := L2.out.blk.frozen 1; have d2 := L2.out.blk.frozen 2; have B2 := Lib.hid hb2; have K2 := Lib.hid hk2; clear hb2 hk2)))
      all_goals
        go_wp2_with fail
        go_region
        all_goals
          go_wp2_with fail
          go_ret2
          have hs0 : Keep (fun k => k = b) w2 (((w2.setCell ⟨b, 0, none⟩ (.slice none 0 0)).setCell ⟨b, 1, none⟩ (.int .i64 0)).setCell ⟨b, 2, none⟩ (.int .i64 0)).drew := ((((Keep.refl (fun k => k = b) w2).setCell (fun _ => rfl) _).setCell (fun _ => rfl) _).setCell (fun _ => rfl) _).drew
          have hkall : Keep (OqS b c vI vB) w w2 := ((HK.out.mono (S' := OqS b c vI vB) (fun _ _ h => h.elim)).drewN 1).then K2.out (fun k _ e => .inr (.inl e))
          have hB2 := B2.out
          rw [show gB + (all.length - gB) = all.length from by have := HQ.out.bq.le; omega] at hB2
          refine ⟨rfl, .slice none 0 0, vB, [], 0, all, all.length, ⟨⟨?_, Row.nil _ _ _, Nat.le_refl _⟩, ?_, by simp, by decide, by decide, HQ.out.r0, HQ.out.r1⟩, rfl, by simp, by simp, Nat.le_refl _, ?_, by simp [Value.ownBlock], fun k hk => .inl hk⟩
          · exact ((L2.out.blk.set_ 0 (.slice none 0 0)).set_ 1 (.int .i64 0)).set_ 2 (.int .i64 0)
          · exact hB2.keep hs0 (fun e => HQ.out.ne e.symm) (fun k hk e => HQ.out.ne_bB (e ▸ hk))
          · exact hkall.then hs0 (fun k _ e => .inl e)

theorem oqAll_any (h : Oq w b c vI vB lens gI part all gB room) (hl : lens.length ≤ 1048576) :
    Calls Try.prog 26 #[.pointer (some ⟨b, 0, none⟩)] w (Ends fun e w' => ∃ B r, e = .returned (.func (.func 50) #[] #[.pointer (some ⟨B, 0, none⟩)]) ∧ w.heap.size ≤ B ∧ Blk w' B 47 #[r] ∧
      Row w' 3 1 r (lens.length - gI) (ints .i64 (waitsOf (lens.drop gI) part)) ∧ (∀ k, some k = r.ownBlock → w.heap.size ≤ k) ∧ Below w.heap.size w w') := by
  have HH := Lib.hid h
  clear h
  go_enter Try.func26, Try.ntmps26
  go_wp2_with (first | (go_at_call 49; go_must (refine (oqWaiting_any HH.out hl).mono ?_; rintro e w1 ⟨r, rfl, hr, ho, hb⟩; obtain ⟨A, cr, rfl⟩ := hr.slice; have R1 := Lib.hid hr; have O1 := Lib.hid ho; have W1 := Lib.hid hb; clear hr ho hb)))
  go_ret
  have hb2 : Below w1.heap.size w1 (w1.alloc (.cells #[.slice A (lens.length - gI) cr] 47)) := (Below.refl _ _).alloc (Nat.le_refl _) _
  refine ⟨_, _, rfl, W1.out.size, Blk.new w1 47 _, R1.out.keep (Keep.of_below (S := fun _ => False) hb2) (fun _ _ h => h), O1.out, W1.out.trans ((Below.refl _ _).alloc W1.out.size _)⟩
end
end Go.Proofs.Ytcahmhenlpplcaa
