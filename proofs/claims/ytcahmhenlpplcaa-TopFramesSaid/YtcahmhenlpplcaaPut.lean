/-
  The queue of bytes: put, Push.
-/
import Derived.Test.YtcahmhenlpplcaaFr
import Derived.Deep.RegionLaw
import Derived.Deep.DeepCutAuto
import Derived.Deep.CutBlock
namespace Go.Proofs.Ytcahmhenlpplcaa
open Go.RowKit

/-- v[:0]. -/
def noneOf (v : Value) : Value := match v with | .slice A _ c => .slice A 0 c | v => v
theorem noneOf_row {W : World} {e : Nat} {v : Value} {n : Nat} {xs : List Value} (h : Row W e 1 v n xs) : Row W e 1 (noneOf v) 0 [] ∧ (noneOf v).ownBlock = v.ownBlock := by
  rcases h.2 with ⟨rfl, rfl⟩ | ⟨g, off, cap, cur, rfl, hg, hnc, hm, hs, ht⟩
  · exact ⟨Row.nil _ _ _, rfl⟩
  · exact ⟨⟨by simp, .inr ⟨g, off, cap, cur, rfl, hg, by omega, hm, hs, by simp⟩⟩, rfl⟩

theorem Bq.appended {W w1 : World} {b gone m : Nat} {v v1 : Value} {all x : List Int} {room : Int} (h : Bq W b v all gone room) (hm : x.length = m)
    (hr : Row w1 5 1 v1 (all.length + m) (ints .u8 all ++ ints .u8 x)) (hk : Keep (fun k => some k = v.ownBlock) W w1) :
    Bq (w1.setCell ⟨b, 0, none⟩ v1) b v1 (all ++ x) gone room ∧ Keep (fun k => k = b ∨ some k = v.ownBlock) W (w1.setCell ⟨b, 0, none⟩ v1) := by
  have hne : ¬ some b = v.ownBlock := h.row.ne_blk h.blk (by decide)
  have hb1 := h.blk.keep hk hne
  have hk2 : Keep (fun k => k = b) w1 (w1.setCell ⟨b, 0, none⟩ v1) := (Keep.refl (fun k => k = b) _).setCell (fun _ => rfl) _
  refine ⟨⟨hb1.set_ 0 v1, ?_, ?_⟩, (hk.mono (fun k _ h => .inr h)).setCell (p := ⟨b, 0, none⟩) (fun _ => .inl rfl) v1⟩
  · have h1 := hr.keep hk2 (fun k hk e => hr.ne_blk hb1 (by decide) (e ▸ hk))
    rw [← ints_append] at h1
    rwa [List.length_append, hm]
  · have := h.le
    rw [List.length_append]
    omega

/-- What stands for the queue behind 'put's first half. -/
def PutAt (w : World) (b : Nat) (v : Value) (room : Int) (data : List Int) (lim : Nat) (wx : World) : Prop :=
  ∃ v1 all1 gone1, Bq wx b v1 all1 gone1 room ∧ all1.drop gone1 = data ∧ all1.length ≤ lim ∧ Keep (fun k => k = b ∨ some k = v.ownBlock) w wx ∧ (∀ k, some k = v1.ownBlock → some k = v.ownBlock ∨ w.heap.size ≤ k)

theorem put_halved {b gone m : Nat} {v v0 v1 : Value} {all : List Int} {room : Int} {w w1 : World} (h : Bq w b v all gone room) (hv0 : v0.ownBlock = v.ownBlock)
    (hr : Row w1 5 1 v1 (all.length - gone) (ints .u8 (all.drop gone))) (hk : Keep (fun k => some k = v0.ownBlock) (w.drewN m) w1) (ho : v1.ownBlock = v0.ownBlock ∨ v1.ownBlock = some w.heap.size) :
    PutAt w b v room (all.drop gone) all.length ((w1.setCell ⟨b, 0, none⟩ v1).setCell ⟨b, 1, none⟩ (.int .i64 0)) := by
  have hne : ¬ some b = v.ownBlock := h.row.ne_blk h.blk (by decide)
  have hb1 := (h.blk.drewN m).keep hk (fun e => hne (e.trans hv0))
  have hk2 : Keep (fun k => k = b) w1 ((w1.setCell ⟨b, 0, none⟩ v1).setCell ⟨b, 1, none⟩ (.int .i64 0)) := ((Keep.refl (fun k => k = b) _).setCell (fun _ => rfl) _).setCell (fun _ => rfl) _
  have h1 := hr.keep hk2 (fun k hk e => hr.ne_blk hb1 (by decide) (e ▸ hk))
  refine ⟨v1, all.drop gone, 0, ⟨(hb1.set_ 0 v1).set_ 1 _, by rwa [List.length_drop], by omega⟩, rfl, by simp, ?_, fun k hk => ?_⟩
  · have h2 : Keep (fun k => k = b ∨ some k = v.ownBlock) w w1 := (((Keep.refl (fun k => k = b ∨ some k = v.ownBlock) w).drewN m).then hk (fun k _ e => .inr (e.trans hv0)))
    exact (h2.setCell (p := ⟨b, 0, none⟩) (fun _ => .inl rfl) _).setCell (p := ⟨b, 1, none⟩) (fun _ => .inl rfl) _
  · rcases ho with ho | ho
    · exact .inl (hk.trans (ho.trans hv0))
    · rw [ho] at hk
      injection hk with hk
      exact .inr (by omega)

theorem put_more {b : Nat} {v v1 v2 : Value} {data x : List Int} {room : Int} {lim gone1 : Nat} {all1 : List Int} {w wr w1 : World} (h : Bq wr b v1 all1 gone1 room) (hd : all1.drop gone1 = data) (hl : all1.length ≤ lim)
    (hk : Keep (fun k => k = b ∨ some k = v.ownBlock) w wr) (ho : ∀ k, some k = v1.ownBlock → some k = v.ownBlock ∨ w.heap.size ≤ k)
    (hr : Row w1 5 1 v2 (all1.length + x.length) (ints .u8 all1 ++ ints .u8 x)) (hk1 : Keep (fun k => some k = v1.ownBlock) wr w1) (ho1 : v2.ownBlock = v1.ownBlock ∨ v2.ownBlock = some wr.heap.size) :
    PutAt w b v room (data ++ x) (lim + x.length) (w1.setCell ⟨b, 0, none⟩ v2) := by
  obtain ⟨hB, hK⟩ := h.appended rfl hr hk1
  have hle := h.le
  have hsz := hk.size
  refine ⟨v2, all1 ++ x, gone1, hB, by rw [List.drop_append_of_le_length hle, hd], by rw [List.length_append]; omega, hk.then hK (fun k hlt e => ?_), fun k hk => ?_⟩
  · rcases e with e | e
    · exact .inl e
    · rcases ho k e with e | e
      · exact .inr e
      · omega
  · rcases ho1 with e | e
    · exact ho k (hk.trans e)
    · rw [e] at hk
      injection hk with hk
      exact .inr (by omega)
theorem total_flatten (fr : List (List Int)) : fr.flatten.length = total fr := by simp [total, List.length_flatten]

theorem byPut_any {b gone : Nat} {v : Value} {all : List Int} {room : Int} {w : World} (h : Bq w b v all gone room) (pv : Value) (fr : List (List Int)) (ok : Nat → Prop) (hf : Frs w ok pv fr) (hok : ∀ k, ok k → k ≠ b ∧ ¬ some k = v.ownBlock)
    (hal : all.length + total fr ≤ 1048576) (hfl : fr.length ≤ 1048576) :
    Calls Try.prog 55 #[.pointer (some ⟨b, 0, none⟩), pv] w (Ends fun e w' => (∃ x, e = .returned x) ∧ PutAt w b v room (all.drop gone ++ fr.flatten) (all.length + total fr) w') := by
  have hc0 := h.c0
  have hc1 := h.c1
  have hf0 := h.blk.frozen 0
  have hf1 := h.blk.frozen 1
  have hL := h.left
  obtain ⟨A2, c2, hv2, hc2⟩ := id hL
  clear hc2
  have hle := h.le
  obtain ⟨hN, hNo⟩ := noneOf_row h.row
  obtain ⟨A, c, rfl⟩ := h.row.slice
  obtain ⟨A3, c3, he3, hsrc⟩ := hL.src (ints_one _ _)
  rw [hv2] at he3
  injection he3 with e1 e2 e3
  subst e1
  have hd : (all.drop gone).length = all.length - gone := by simp
  have hne : ¬ some b = (Value.slice A all.length c).ownBlock := h.row.ne_blk h.blk (by decide)
  have HH := Lib.hid h
  have HF := Lib.hid hf
  have HK := Lib.hid hok
  have HV := Lib.hid hv2
  have HS := Lib.hid hsrc
  have HN := Lib.hid hN
  have HO := Lib.hid hNo
  have HE := Lib.hid (show ¬ some b = (Value.slice A 0 c).ownBlock from fun e => hne (e.trans hNo))
  have HD := Lib.hid hd
  obtain ⟨Af, cf, rfl⟩ := hf.slice
  clear h hL hv2 hsrc hN hNo e2 e3 hne hd hf hok
  have hal1 : all.length ≤ 1048576 := by omega
  go_enter Try.func55, Try.ntmps55
  go_wp2_with fail
  go_quiet (fail)
  go_upto_if 16 with fail
  go_cut [] (PutAt w b (.slice A all.length c) room (all.drop gone) all.length)
  case first =>
    by_cases hg : all.length / 2 < gone
    · have hgt : ((all.length : Int) / 2 < (gone : Int)) := by omega
      go_wp2_with fail
      go_region_law (first | (refine step_append_row (by rfl) _ _ 28 (by rfl) ty28 (v := .slice A 0 c) (n := 0) (xs := []) (by rfl) ?h1 _ _ _ (ints .u8 (all.drop gone)) (by rfl) ?h2 ?h3 ?h4 ?_; go_must ((case h1 => exact HN.out.drewN _); (case h2 => exact HS.out); (case h3 => simp only [Go.maxLen]; omega); (case h4 => omega); intro v1 w1 hr1 hk1 ho1; obtain ⟨A1, c1, rfl⟩ := hr1.slice; have B1 := (HH.out.blk.drewN _).keep hk1 HE.out; have q0 : w1.cell? ⟨b, 0, none⟩ = some (.slice A all.length c) := B1.cell 0; have q1 := B1.frozen 0; have r0 : w1.cell? ⟨b, 1, none⟩ = some (.int .i64 gone) := B1.cell 1; have r1 := B1.frozen 1; have BH := Lib.hid B1; clear B1; have R1 := Lib.hid hr1; have K1 := Lib.hid hk1; have O1 := Lib.hid ho1; clear hr1 hk1 ho1)) | (go_simp; go_at_call 59; refine (byLeft_any (HH.out.drewN _)).mono ?_; rintro e w' ⟨rfl, n1, rfl⟩; rw [HV.out]))
      all_goals
        go_wp2_with fail
        go_meet
        have hR := R1.out
        simp only [Nat.zero_add, List.nil_append] at hR
        have hO := O1.out
        simp only [Nat.zero_add] at hO
        exact put_halved HH.out HO.out hR K1.out hO
    · have hgt : ¬ ((all.length : Int) / 2 < (gone : Int)) := by omega
      go_wp2_with fail
      go_meet
      exact ⟨_, all, gone, HH.out.drewN _, rfl, Nat.le_refl _, (Keep.refl _ _).drewN _, fun k hk => .inl hk⟩
  case rest =>
    have HP := Lib.hid hcut
    clear hcut hc0 hc1 hf0 hf1
    go_wp2_with fail
    go_loopw [5, 33] (fun _ i wr => ∃ k : Nat, k ≤ fr.length ∧ i = .int .i64 k ∧ PutAt w b (.slice A all.length c) room (all.drop gone ++ (fr.take k).flatten) (all.length + total (fr.take k)) wr) (fun _ i _ => fr.length - (intOf i).toNat)
    case atStart => exact ⟨0, Nat.zero_le _, rfl, by simpa [total] using HP.out⟩
    case round =>
      obtain ⟨k, hk, rfl, hput⟩ := hrel
      by_cases hlt : k < fr.length
      · obtain ⟨v1, all1, gone1, hq, hd, hl, hkeep, hown⟩ := hput
        have hfr := HF.out.keep hkeep (fun j hj _ h => by
          rcases h with h | h
          · exact (HK.out j hj).1 h
          · exact (HK.out j hj).2 h)
        obtain ⟨g, off, A', c', rfl, hg, hc, hs⟩ := hfr.at_ hlt
        obtain ⟨A4, c4, he4, hsrc⟩ := hs.src (ints_one _ _)
        injection he4 with e1 e2 e3
        subst e1
        have htk := List.take_succ_eq_append_getElem hlt
        have ht1 : total (fr.take (k + 1)) = total (fr.take k) + fr[k].length := by rw [htk, total_snoc]
        have ht2 := total_take_le fr (k + 1)
        have hal2 : all1.length + fr[k].length ≤ 1048576 := by omega
        obtain ⟨Aq, cq, rfl⟩ := hq.row.slice
        have d0 := hq.c0
        have g0 := hq.blk.frozen 0
        have HQ := Lib.hid hq
        have HD1 := Lib.hid hd
        have HL1 := Lib.hid hl
        have HK1 := Lib.hid hkeep
        have HO1 := Lib.hid hown
        have HS1 := Lib.hid hsrc
        have HT := Lib.hid htk
        have HT1 := Lib.hid ht1
        clear hq hd hl hkeep hown hsrc htk ht1 ht2 hfr hs e2 e3
        go_wp2_with (first | (at_builtin; go_must (refine wpList_append_row rfl _ _ 28 rfl ty28 (v := .slice Aq all1.length cq) (n := all1.length) (xs := ints .u8 all1) rfl ?hrow _ _ _ (ints .u8 fr[k]) rfl ?hsrc ?h63 ?hb ?_; (case hrow => exact HQ.out.row); (case hsrc => exact HS1.out); (case h63 => simp only [Go.maxLen]; omega); (case hb => omega); intro v2 w1 hr1 hk1 ho1; obtain ⟨A5, c5, rfl⟩ := hr1.slice; have B1 := HQ.out.blk.keep hk1 (HQ.out.row.ne_blk HQ.out.blk (by decide)); have q0 : w1.cell? ⟨b, 0, none⟩ = some (.slice Aq all1.length cq) := B1.cell 0; have q1 := B1.frozen 0; have BH := Lib.hid B1; clear B1; have R1 := Lib.hid hr1; have K1 := Lib.hid hk1; have O1 := Lib.hid ho1; clear hr1 hk1 ho1)))
        have hP := put_more HQ.out HD1.out HL1.out HK1.out HO1.out R1.out K1.out O1.out
        have hP2 : PutAt w b (.slice A all.length c) room (all.drop gone ++ (fr.take (k + 1)).flatten) (all.length + total (fr.take (k + 1))) (w1.setCell ⟨b, 0, none⟩ (.slice A5 (all1.length + fr[k].length) c5)) := by
          rw [HT1.out, HT.out, List.flatten_append, ← List.append_assoc, ← Nat.add_assoc]
          simpa using hP
        have HP2 := Lib.hid hP2
        clear hP hP2
        go_roundw
        case rel => exact ⟨k + 1, by omega, by go_num, HP2.out⟩
        case measure => simp [intOf]; omega
      · have HP1 := Lib.hid hput
        clear hput
        go_wp2_with fail
        go_end0
        obtain rfl : k = fr.length := by omega
        have h := HP1.out
        rw [List.take_length] at h
        exact ⟨⟨_, rfl⟩, h⟩

theorem bqPush_ok {b gone : Nat} {v : Value} {all : List Int} {room : Int} {w : World} (h : Bq w b v all gone room) (pv : Value) (fr : List (List Int)) (ok : Nat → Prop) (hf : Frs w ok pv fr) (hok : ∀ k, ok k → k ≠ b ∧ ¬ some k = v.ownBlock)
    (hal : all.length + total fr ≤ 1048576) (hfl : fr.length ≤ 1048576) (h0 : 0 ≤ room) (h1 : room ≤ 1048576) (hfit : ((all.length - gone : Nat) : Int) + total fr ≤ room) :
    Calls Try.prog 31 #[.pointer (some ⟨b, 0, none⟩), pv] w (Ends fun e w' => e = .returned (.int .i64 0) ∧ ∃ m, PutAt (w.drewN m) b v room (all.drop gone ++ fr.flatten) (all.length + total fr) w') := by
  have HH := Lib.hid h
  have HF := Lib.hid hf
  have HK := Lib.hid hok
  have hgt : ¬ (room - ((all.length - gone : Nat) : Int) < (total fr : Int)) := by omega
  clear h hf hok
  go_enter Try.func31, Try.ntmps31
  go_wp2_with fail
  go_step3
  go_wp2_with (first | (go_at_call 52; refine (bqNone_any HH.out).mono ?_; rintro e w' ⟨rfl, rfl⟩) | (go_at_call 53; go_must (refine (foldN_any fr pv ok _ HF.out (by omega) hfl).mono ?_; rintro e w' ⟨rfl, rfl⟩)) | (go_at_call 47; go_must (refine (bqRoom_any HH.out h0 h1).mono ?_; rintro e w' ⟨rfl, m, rfl⟩)) | (go_at_call 55; go_must (refine (byPut_any (HH.out.drewN _) pv fr ok (HF.out.drewN _) HK.out hal hfl).mono ?_; rintro e w' ⟨⟨x, rfl⟩, hp⟩; have HP := Lib.hid hp; clear hp)))
  rw [Exit.noGoto_ret]
  go_ret
  exact ⟨rfl, m, HP.out⟩

theorem bqPush_full {b gone : Nat} {v : Value} {all : List Int} {room : Int} {w : World} (h : Bq w b v all gone room) (pv : Value) (fr : List (List Int)) (ok : Nat → Prop) (hf : Frs w ok pv fr)
    (hal : total fr ≤ 1048576) (hfl : fr.length ≤ 1048576) (h0 : 0 ≤ room) (h1 : room ≤ 1048576) (hfit : room < ((all.length - gone : Nat) : Int) + total fr) :
    Calls Try.prog 31 #[.pointer (some ⟨b, 0, none⟩), pv] w (Ends fun e w' => e = .returned (.int .i64 120) ∧ ∃ m, w' = w.drewN m) := by
  have HH := Lib.hid h
  have HF := Lib.hid hf
  have hgt : room - ((all.length - gone : Nat) : Int) < (total fr : Int) := by omega
  clear h hf
  go_enter Try.func31, Try.ntmps31
  go_wp2_with fail
  refine wp_scope_fwd 0 (by rfl) ?_
  go_wp2_with (first | (go_at_call 52; refine (bqNone_any HH.out).mono ?_; rintro e w' ⟨rfl, rfl⟩) | (go_at_call 53; go_must (refine (foldN_any fr pv ok _ HF.out (by omega) hfl).mono ?_; rintro e w' ⟨rfl, rfl⟩)) | (go_at_call 47; go_must (refine (bqRoom_any HH.out h0 h1).mono ?_; rintro e w' ⟨rfl, m, rfl⟩)))
  go_step3
  refine ⟨rfl, ?_⟩
  go_wp2_with fail
  rw [Exit.noGoto_ret]
  go_ret
  exact ⟨rfl, m, rfl⟩
end Go.Proofs.Ytcahmhenlpplcaa
