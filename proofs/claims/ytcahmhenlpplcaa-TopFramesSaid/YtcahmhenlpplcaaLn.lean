/-
  The queue of frames: lengths are put.
-/
import Derived.Test.YtcahmhenlpplcaaOq
namespace Go.Proofs.Ytcahmhenlpplcaa
open Go.RowKit

def LnAt (w : World) (b : Nat) (v : Value) (part : Int) (rest : List Value) (data : List Int) (lim : Nat) (wx : World) : Prop :=
  ∃ v1 all1 gone1, Ln wx b v1 all1 gone1 part rest ∧ all1.drop gone1 = data ∧ all1.length ≤ lim ∧ Keep (fun k => k = b ∨ some k = v.ownBlock) w wx ∧ (∀ k, some k = v1.ownBlock → some k = v.ownBlock ∨ w.heap.size ≤ k)

theorem Ln.set0 {W : World} {b gone : Nat} {v v1 : Value} {all1 : List Int} {part : Int} {rest : List Value} (h : Blk W b 68 (#[v, .int .i64 gone, .int .i64 part] ++ rest.toArray))
    (hr : Row W 3 1 v1 all1.length (ints .i64 all1)) (hle : gone ≤ all1.length) : Ln (W.setCell ⟨b, 0, none⟩ v1) b v1 all1 gone part rest := by
  refine ⟨?_, hr.keep ((Keep.refl (fun k => k = b) _).setCell (fun _ => rfl) _) (fun k hk e => hr.ne_blk h (by decide) (e ▸ hk)), hle⟩
  have := h.set_ 0 v1
  simpa using this

theorem ln_halved {b gone m : Nat} {v v0 v1 : Value} {all : List Int} {part : Int} {rest : List Value} {w w1 : World} (h : Ln w b v all gone part rest) (hv0 : v0.ownBlock = v.ownBlock)
    (hr : Row w1 3 1 v1 (all.length - gone) (ints .i64 (all.drop gone))) (hk : Keep (fun k => some k = v0.ownBlock) (w.drewN m) w1) (ho : v1.ownBlock = v0.ownBlock ∨ v1.ownBlock = some w.heap.size) :
    LnAt w b v part rest (all.drop gone) all.length ((w1.setCell ⟨b, 0, none⟩ v1).setCell ⟨b, 1, none⟩ (.int .i64 0)) := by
  have hne : ¬ some b = v.ownBlock := h.row.ne_blk h.blk (by decide)
  have hb1 := (h.blk.drewN m).keep hk (fun e => hne (e.trans hv0))
  have hk2 : Keep (fun k => k = b) w1 ((w1.setCell ⟨b, 0, none⟩ v1).setCell ⟨b, 1, none⟩ (.int .i64 0)) := ((Keep.refl (fun k => k = b) _).setCell (fun _ => rfl) _).setCell (fun _ => rfl) _
  have h1 := hr.keep hk2 (fun k hk e => hr.ne_blk hb1 (by decide) (e ▸ hk))
  refine ⟨v1, all.drop gone, 0, ⟨?_, by rwa [List.length_drop], by omega⟩, rfl, by simp, ?_, fun k hk => ?_⟩
  · have := (hb1.set_ 0 v1).set_ 1 (.int .i64 0)
    simpa using this
  · have h2 : Keep (fun k => k = b ∨ some k = v.ownBlock) w w1 := (((Keep.refl (fun k => k = b ∨ some k = v.ownBlock) w).drewN m).then hk (fun k _ e => .inr (e.trans hv0)))
    exact (h2.setCell (p := ⟨b, 0, none⟩) (fun _ => .inl rfl) _).setCell (p := ⟨b, 1, none⟩) (fun _ => .inl rfl) _
  · rcases ho with ho | ho
    · exact .inl (hk.trans (ho.trans hv0))
    · rw [ho] at hk
      injection hk with hk
      exact .inr (by omega)

theorem ln_more {b : Nat} {v v1 v2 : Value} {data x : List Int} {part : Int} {rest : List Value} {lim gone1 : Nat} {all1 : List Int} {w wr w1 : World} (h : Ln wr b v1 all1 gone1 part rest) (hd : all1.drop gone1 = data) (hl : all1.length ≤ lim)
    (hk : Keep (fun k => k = b ∨ some k = v.ownBlock) w wr) (ho : ∀ k, some k = v1.ownBlock → some k = v.ownBlock ∨ w.heap.size ≤ k)
    (hr : Row w1 3 1 v2 (all1.length + x.length) (ints .i64 all1 ++ ints .i64 x)) (hk1 : Keep (fun k => some k = v1.ownBlock) wr w1) (ho1 : v2.ownBlock = v1.ownBlock ∨ v2.ownBlock = some wr.heap.size) :
    LnAt w b v part rest (data ++ x) (lim + x.length) (w1.setCell ⟨b, 0, none⟩ v2) := by
  have hle := h.le
  have hsz := hk.size
  have hne : ¬ some b = v1.ownBlock := h.row.ne_blk h.blk (by decide)
  have hb1 := h.blk.keep hk1 hne
  have hK : Keep (fun k => k = b ∨ some k = v1.ownBlock) wr (w1.setCell ⟨b, 0, none⟩ v2) := (hk1.mono (fun k _ h => .inr h)).setCell (p := ⟨b, 0, none⟩) (fun _ => .inl rfl) v2
  rw [← ints_append, ← List.length_append] at hr
  refine ⟨v2, all1 ++ x, gone1, Ln.set0 hb1 hr (by rw [List.length_append]; omega), by rw [List.drop_append_of_le_length hle, hd], by rw [List.length_append]; omega, hk.then hK (fun k hlt e => ?_), fun k hk => ?_⟩
  · rcases e with e | e
    · exact .inl e
    · rcases ho k e with e | e
      · exact .inr e
      · omega
  · rcases ho1 with e | e
    · exact ho k (hk.trans e)
    · rw [e] at hk
      injection hk with hk
      exact .inr (by omega)

theorem lnPut_any {b gone : Nat} {v : Value} {all : List Int} {part : Int} {rest : List Value} {w : World} (h : Ln w b v all gone part rest) (mv : Value) (xs : List Int) (ok : Nat → Prop) (hf : Sees w ok 1 mv xs.length (ints .i64 xs)) (hok : ∀ k, ok k → k ≠ b ∧ ¬ some k = v.ownBlock)
    (hal : all.length + xs.length ≤ 1048576) :
    Calls Try.prog 32 #[.pointer (some ⟨b, 0, none⟩), mv] w (Ends fun e w' => (∃ x, e = .returned x) ∧ LnAt w b v part rest (all.drop gone ++ xs) (all.length + xs.length) w') := by
  have hc0 := h.c0
  have hc1 := h.c1
  have hf0 := h.blk.frozen 0
  have hf1 := h.blk.frozen 1
  have hL := h.left
  obtain ⟨A2, c2, hv2, hc2⟩ := id hL
  clear hc2
  have hle := h.le
  obtain ⟨hN, hNo⟩ := noneOf_row h.row
  obtain ⟨A, c, rfl⟩ := h.row.slice
  obtain ⟨A3, c3, he3, hsrc⟩ := hL.src (ints_one _ _)
  rw [hv2] at he3
  injection he3 with e1 e2 e3
  subst e1
  have hne : ¬ some b = (Value.slice A all.length c).ownBlock := h.row.ne_blk h.blk (by decide)
  have HH := Lib.hid h
  have HF := Lib.hid hf
  have HK := Lib.hid hok
  have HV := Lib.hid hv2
  have HS := Lib.hid hsrc
  have HN := Lib.hid hN
  have HO := Lib.hid hNo
  have HE := Lib.hid (show ¬ some b = (Value.slice A 0 c).ownBlock from fun e => hne (e.trans hNo))
  obtain ⟨Af, cf, rfl, hfr⟩ := hf
  clear h hL hv2 hsrc hN hNo e2 e3 hne hok hfr
  have hal1 : all.length ≤ 1048576 := by omega
  go_enter Try.func32, Try.ntmps32
  go_wp2_with fail
  go_quiet (fail)
  go_upto_if 14 with fail
  go_cut [] (LnAt w b (.slice A all.length c) part rest (all.drop gone) all.length)
  case first =>
    by_cases hg : all.length / 2 < gone
    · have hgt : ((all.length : Int) / 2 < (gone : Int)) := by omega
      go_wp2_with fail
      go_region_law (first | (refine step_append_row (by rfl) _ _ 47 (by rfl) ty47 (v := .slice A 0 c) (n := 0) (xs := []) (by rfl) ?h1 _ _ _ (ints .i64 (all.drop gone)) (by rfl) ?h2 ?h3 ?h4 ?_; go_must ((case h1 => exact HN.out.drewN _); (case h2 => exact HS.out); (case h3 => simp only [Go.maxLen]; omega); (case h4 => omega); intro v1 w1 hr1 hk1 ho1; obtain ⟨A1, c1, rfl⟩ := hr1.slice; have B1 := (HH.out.blk.drewN _).keep hk1 HE.out; have q0 : w1.cell? ⟨b, 0, none⟩ = some (.slice A all.length c) := (B1.cell 0).trans (by simp); have q1 := B1.frozen 0; have r0 : w1.cell? ⟨b, 1, none⟩ = some (.int .i64 gone) := (B1.cell 1).trans (by simp); have r1 := B1.frozen 1; have BH := Lib.hid B1; clear B1; have R1 := Lib.hid hr1; have K1 := Lib.hid hk1; have O1 := Lib.hid ho1; clear hr1 hk1 ho1)) | (go_simp; go_at_call 46; refine (lnLeft_any (HH.out.drewN _)).mono ?_; rintro e w' ⟨rfl, n1, rfl⟩; rw [HV.out]))
      all_goals
        go_wp2_with fail
        go_meet
        have hR := R1.out
        simp only [Nat.zero_add, List.nil_append] at hR
        have hO := O1.out
        simp only [Nat.zero_add] at hO
        exact ln_halved HH.out HO.out hR K1.out hO
    · have hgt : ¬ ((all.length : Int) / 2 < (gone : Int)) := by omega
      go_wp2_with fail
      go_meet
      exact ⟨_, all, gone, HH.out.drewN _, rfl, Nat.le_refl _, (Keep.refl _ _).drewN _, fun k hk => .inl hk⟩
  case rest =>
    obtain ⟨v1, all1, gone1, hq, hd, hl, hkeep, hown⟩ := hcut
    have hfr := HF.out.keep hkeep (fun j hj _ h => by
      rcases h with h | h
      · exact (HK.out j hj).1 h
      · exact (HK.out j hj).2 h)
    obtain ⟨A4, c4, he4, hsrc⟩ := hfr.src (ints_one _ _)
    injection he4 with e1 e2 e3
    subst e1
    have hal2 : all1.length + xs.length ≤ 1048576 := by omega
    obtain ⟨Aq, cq, rfl⟩ := hq.row.slice
    have d0 := hq.c0
    have g0 := hq.blk.frozen 0
    have HQ := Lib.hid hq
    have HD1 := Lib.hid hd
    have HL1 := Lib.hid hl
    have HK1 := Lib.hid hkeep
    have HO1 := Lib.hid hown
    have HS1 := Lib.hid hsrc
    clear hq hd hl hkeep hown hsrc hfr e2 e3 hc0 hc1 hf0 hf1
    go_wp2_with (first | (at_builtin; go_must (refine wpList_append_row rfl _ _ 47 rfl ty47 (v := .slice Aq all1.length cq) (n := all1.length) (xs := ints .i64 all1) rfl ?hrow _ _ _ (ints .i64 xs) rfl ?hsrc ?h63 ?hb ?_; (case hrow => exact HQ.out.row); (case hsrc => exact HS1.out); (case h63 => simp only [Go.maxLen]; omega); (case hb => omega); intro v2 w1 hr1 hk1 ho1; obtain ⟨A5, c5, rfl⟩ := hr1.slice; have B1 := HQ.out.blk.keep hk1 (HQ.out.row.ne_blk HQ.out.blk (by decide)); have q0 : w1.cell? ⟨b, 0, none⟩ = some (.slice Aq all1.length cq) := (B1.cell 0).trans (by simp); have q1 := B1.frozen 0; have BH := Lib.hid B1; clear B1; have R1 := Lib.hid hr1; have K1 := Lib.hid hk1; have O1 := Lib.hid ho1; clear hr1 hk1 ho1)))
    go_end0
    exact ⟨⟨_, rfl⟩, ln_more HQ.out HD1.out HL1.out HK1.out HO1.out R1.out K1.out O1.out⟩

theorem oqPush2_any {v : Value} {n : Nat} {xs : List Value} {w : World} (hr : Row w 3 1 v n xs) (x : List Int) (pv : Value) (ok : Nat → Prop) (h : Sees w ok 1 pv x.length (ints .u8 x)) (hn : n ≤ 1048576) :
    Calls Try.prog 34 #[v, pv] w (Ends fun e w' => ∃ r, e = .returned r ∧ Row w' 3 1 r (n + 1) (xs ++ [.int .i64 x.length]) ∧ Keep (fun k => some k = v.ownBlock) w w' ∧ (∀ k, some k = r.ownBlock → some k = v.ownBlock ∨ w.heap.size ≤ k)) := by
  obtain ⟨A, c, rfl, hrest⟩ := h
  obtain ⟨A1, c1, rfl⟩ := hr.slice
  have HR := Lib.hid hr
  clear hrest hr
  go_enter Try.func34, Try.ntmps34
  go_wp2_with (first | (at_builtin; go_must (refine wpList_append_row rfl _ _ 47 rfl ty47 (v := .slice A1 n c1) (n := n) (xs := xs) rfl ?hrow _ _ _ [.int .i64 x.length] rfl ?hsrc ?h63 ?hb ?_; (case hrow => exact HR.out.keep ((Keep.refl (fun _ => False) w).alloc _) (fun _ _ h => h)); (case hsrc => exact Src.lit (heap_alloc_at _ _ _ (by simp)) rfl (by simp [Value.oneCell'])); (case h63 => simp only [Go.maxLen]; omega); (case hb => omega); intro v2 w1 hr1 hk1 ho1; have R1 := Lib.hid hr1; have K1 := Lib.hid hk1; have O1 := Lib.hid ho1; clear hr1 hk1 ho1)))
  go_ret
  refine ⟨v2, rfl, R1.out, ((Keep.refl (fun k => some k = (Value.slice A1 n c1).ownBlock) w).alloc _).then K1.out (fun _ _ h => h), fun k hk => ?_⟩
  rcases O1.out with e | e
  · exact .inl (hk.trans e)
  · rw [e] at hk
    injection hk with hk
    simp at hk
    exact .inr (by omega)

theorem foldI_any (fr : List (List Int)) (pv : Value) (ok : Nat → Prop) (w : World) (h : Frs w ok pv fr) (hl : fr.length ≤ 1048576) :
    Calls Try.prog 33 #[.slice none 0 0, .func (.func 34) #[] #[], pv] w (Ends fun e w' => ∃ r, e = .returned r ∧ Row w' 3 1 r fr.length (ints .i64 (fr.map fun x => (x.length : Int))) ∧ (∀ k, some k = r.ownBlock → w.heap.size ≤ k) ∧ Below w.heap.size w w') := by
  obtain ⟨A, c, rfl⟩ := h.slice
  have HH := Lib.hid h
  clear h
  go_enter Try.func33, Try.ntmps33
  go_wp2_with fail
  go_loopw [0, 8, 11] (fun s' _ i wr => ∃ (k : Nat) (s : Value), k ≤ fr.length ∧ i = .int .i64 k ∧ s = s' ∧ Row wr 3 1 s k (ints .i64 ((fr.take k).map fun x => (x.length : Int))) ∧ (∀ k, some k = s.ownBlock → w.heap.size ≤ k) ∧ Below w.heap.size w wr) (fun _ _ i _ => fr.length - (intOf i).toNat)
  case atStart => exact ⟨0, _, Nat.zero_le _, rfl, rfl, Row.nil _ _ _, by simp [Value.ownBlock], Below.refl _ _⟩
  case round =>
    obtain ⟨k, s, hk, rfl, rfl, hr, ho, hb⟩ := hrel
    have HR := Lib.hid hr
    have HO := Lib.hid ho
    have HB := Lib.hid hb
    by_cases hlt : k < fr.length
    · obtain ⟨g, off, A', c', rfl, hg, hc, hs⟩ := (HH.out.keep (Keep.of_below (S := fun _ => False) hb) (fun _ _ _ h => h)).at_ hlt
      have htk := List.take_succ_eq_append_getElem hlt
      have HS := Lib.hid hs
      have HT := Lib.hid htk
      clear hs htk hr ho hb
      go_wp2_with (first | (go_at_call 34; go_must (refine (oqPush2_any HR.out fr[k] _ _ HS.out (by omega)).mono ?_; rintro e w1 ⟨r, rfl, hr1, hk1, ho1⟩; have R1 := Lib.hid hr1; have K1 := Lib.hid hk1; have O1 := Lib.hid ho1; clear hr1 hk1 ho1)))
      have hR2 : Row w1 3 1 r (k + 1) (ints .i64 ((fr.take (k + 1)).map fun x => (x.length : Int))) := by
        rw [HT.out, List.map_append, ints_append]
        exact R1.out
      have hO2 : ∀ j, some j = r.ownBlock → w.heap.size ≤ j := fun j hj => by
        rcases O1.out j hj with h | h
        · exact HO.out j h
        · have := HB.out.size
          omega
      have hB2 : Below w.heap.size w w1 := HB.out.trans (K1.out.below HB.out.size (fun j hj => HO.out j hj))
      have HR2 := Lib.hid hR2
      have HO2 := Lib.hid hO2
      have HB2 := Lib.hid hB2
      clear hR2 hO2 hB2
      go_roundw
      case rel => exact ⟨k + 1, r, by omega, by go_num, rfl, HR2.out, HO2.out, HB2.out⟩
      case measure => simp [intOf]; omega
    · clear hr ho hb
      go_wp2_with fail
      go_ret
      obtain rfl : k = fr.length := by omega
      have h := HR.out
      rw [List.take_length] at h
      exact ⟨s, rfl, h, HO.out, HB.out⟩
end Go.Proofs.Ytcahmhenlpplcaa
