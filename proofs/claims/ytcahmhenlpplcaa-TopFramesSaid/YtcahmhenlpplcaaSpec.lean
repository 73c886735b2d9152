/-
  The statement's own answer: frames that wait as somebody writes them down.
-/
import Derived.Test.YtcahmhenlpplcaaOqp
namespace Go.Proofs.Ytcahmhenlpplcaa
open Go.RowKit

theorem ty38 : SlTy Try.prog 38 28 1 24 := SlTy.mk_ (z := .slice none 0 0) Try.underlying38 (by kernel_rfl) rfl

/-- v[k:]. -/
def fromVal (v : Value) (k : Nat) : Value :=
  match v with
  | .slice A n c => .slice (if c = k then A else Option.map (fun x => x.add k) A) (n - k) (c - k)
  | v => v
theorem Sees.cap {W : World} {ok : Nat → Prop} {A : Option Addr} {n n' c : Nat} {xs : List Value} (h : Sees W ok 1 (.slice A n' c) n xs) : n ≤ c := by
  obtain ⟨A', c', he, h1, _⟩ := h
  injection he with _ _ he
  omega
theorem Row.from_ {W : World} {e : Nat} {v : Value} {n : Nat} {xs : List Value} (h : Row W e 1 v n xs) {k : Nat} (hk : k ≤ n) : Row W e 1 (fromVal v k) (n - k) (xs.drop k) ∧ (fromVal v k).ownBlock = v.ownBlock := by
  rcases h.2 with ⟨rfl, rfl⟩ | ⟨g, off, cap, cur, rfl, hg, hnc, hm, hs, ht⟩
  · have hk0 : k = 0 := by omega
    subst hk0
    exact ⟨⟨by simp [h.1], .inl ⟨by simp [fromVal], rfl⟩⟩, by simp [fromVal, Value.ownBlock]⟩
  · by_cases hck : cap = k
    · subst hck
      refine ⟨⟨by simp [h.1], .inr ⟨g, off, 0, cur, by simp [fromVal], hg, by omega, by omega, by omega, ?_⟩⟩, by simp [fromVal, Value.ownBlock]⟩
      rw [show n - cap = 0 from by omega, List.drop_of_length_le (l := xs) (by have := h.1; omega)]
      simp
    · refine ⟨⟨by simp [h.1], .inr ⟨g, off + k, cap - k, cur, by simp [fromVal, hck, Addr.add_lit], hg, by omega, by omega, by omega, ?_⟩⟩, by simp [fromVal, hck, Value.ownBlock, Addr.add_lit]⟩
      rw [← ht, List.drop_take, List.drop_drop]
      congr 1
      omega

theorem num_any (n : Int) (w : World) : Calls Try.prog 8 #[.int .i64 n] w (Ends fun e w' => e = .returned (.int .i64 n) ∧ w = w') := by
  go_enter Try.func8, Try.ntmps8
  go_wp2
  go_ret
  exact ⟨rfl, rfl⟩

/-- So many bytes. -/
def frameOf (n : Nat) (turn : Int) : List Int := (List.range n).map fun (i : Nat) => (5 * (i : Int) + turn) % 256
theorem frameOf_len (n : Nat) (turn : Int) : (frameOf n turn).length = n := by simp [frameOf]

theorem frameOf_succ (k : Nat) (turn : Int) : frameOf (k + 1) turn = frameOf k turn ++ [(5 * (k : Int) + turn) % 256] := by simp [frameOf, List.range_succ]
theorem frame_set {k n : Nat} (turn : Int) (h : k < n) : (ints .u8 (frameOf k turn ++ List.replicate (n - k) 0)).set k (.int .u8 ((5 * (k : Int) + turn) % 256)) = ints .u8 (frameOf (k + 1) turn ++ List.replicate (n - (k + 1)) 0) := by
  have hl := frameOf_len k turn
  obtain ⟨d, rfl⟩ : ∃ d, n = k + 1 + d := ⟨n - (k + 1), by omega⟩
  rw [frameOf_succ, show k + 1 + d - k = d + 1 from by omega, show k + 1 + d - (k + 1) = d from by omega, List.replicate_succ]
  unfold ints
  rw [List.map_append, List.map_append, List.map_append, List.map_cons, List.set_append_right _ _ (by simp [hl])]
  simp [hl]

theorem made_row (n : Nat) (w : World) (hn : n ≤ 255) : ∃ w1, (Instr.makeSlice 28 (.int .u8 n) (.int .u8 n)).run Try.prog w = .ok (.slice (some ⟨w.heap.size, 0, none⟩) n n) w1 ∧
    Row w1 5 1 (.slice (some ⟨w.heap.size, 0, none⟩) n n) n (ints .u8 (List.replicate n 0)) ∧ Below w.heap.size w w1 := by
  obtain ⟨i, hi, hz2⟩ := Option.map_eq_some_iff.1 (show (Try.prog.info? 5).map (fun i => (i.zero, i.size, i.bytes)) = some (some (.int .u8 0), 1, 1) by kernel_rfl)
  simp only [Prod.mk.injEq] at hz2
  obtain ⟨hz, hsz, hby⟩ := hz2
  have hr := run_make (P := Try.prog) w 28 5 i (.int .u8 0) Try.underlying28 hi hz .u8 .u8 n n (by omega) (by omega) (by rw [hby]; omega) (by omega)
  simp only [Int.toNat_natCast] at hr
  refine ⟨_, hr, ⟨by simp [ints], .inr ⟨_, 0, n, _, rfl, heap_alloc_new w _, Nat.le_refl _, by simp only [Go.maxLen]; omega, by simp [size_madeCells, hsz], ?_⟩⟩, (Below.refl _ _).alloc (Nat.le_refl _) _⟩
  rw [hsz, show (Value.int IntKind.u8 0).cells = #[.int .u8 0] from rfl, toList_madeCells_one]
  simp [ints]

theorem frame23_any (n : Nat) (turn : Int) (w : World) (hn : n ≤ 255) (h0 : 0 ≤ turn) (h1 : turn ≤ 1048576) :
    Calls Try.prog 9 #[.int .u8 n, .int .i64 turn] w (Ends fun e w' => ∃ r, e = .returned r ∧ Row w' 5 1 r n (ints .u8 (frameOf n turn)) ∧ (∀ k, some k = r.ownBlock → w.heap.size ≤ k) ∧ Below w.heap.size w w') := by
  obtain ⟨w1, hm, hrow, hbel⟩ := made_row n w hn
  have HR := Lib.hid hrow
  have HB := Lib.hid hbel
  clear hrow hbel
  go_enter Try.func9, Try.ntmps9
  go_wp2_with fail
  go_loopw [6] (fun i wr => ∃ k : Nat, k ≤ n ∧ i = .int .i64 k ∧ Row wr 5 1 (.slice (some ⟨w.heap.size, 0, none⟩) n n) n (ints .u8 (frameOf k turn ++ List.replicate (n - k) 0)) ∧ Below w.heap.size w wr) (fun i _ => n - (intOf i).toNat)
  case atStart => exact ⟨0, Nat.zero_le _, rfl, HR.out, HB.out⟩
  case round =>
    obtain ⟨k, hk, rfl, hr, hb⟩ := hrel
    by_cases hlt : k < n
    · obtain ⟨g, off, c, he, hc, hg, hfz, hcell⟩ := hr.cells (by omega)
      injection he with he _ he3
      injection he with he
      injection he with hg1 ho
      subst hg1
      subst ho
      subst he3
      have hl : k < (ints .u8 (frameOf k turn ++ List.replicate (n - k) 0)).length := by simp [ints, frameOf_len]; omega
      have q0 := hcell k _ (List.getElem?_eq_getElem hl)
      rw [Nat.zero_add] at q0
      have q1 := hfz k
      have hS := hr.set_ hlt (.int .u8 ((5 * (k : Int) + turn) % 256))
      rw [Nat.zero_add] at hS
      have HS := Lib.hid hS
      have HB2 := Lib.hid hb
      clear hcell hfz hr hb hS
      go_wp2_with fail
      go_roundw
      case rel =>
        refine ⟨k + 1, by omega, by go_num, ?_, HB2.out.setCell (Nat.le_refl _) _⟩
        have h := HS.out
        rwa [frame_set turn hlt] at h
      case measure => simp [intOf]; omega
    · go_wp2_with fail
      go_ret
      obtain rfl : k = n := by omega
      refine ⟨_, rfl, ?_, by simp [Value.ownBlock], hb⟩
      simpa using hr

/-- What is taken of frames, at most so many bytes. -/
def takeTo : Nat → List (List Int) → Nat → List Int × Nat × Nat
  | _, [], begun => ([], 0, begun)
  | most, f :: fs, begun =>
    if most = 0 then ([], 0, begun)
    else if most < f.length - begun then ((f.drop begun).take most, 0, begun + most)
    else ((f.drop begun) ++ (takeTo (most - (f.length - begun)) fs 0).1, (takeTo (most - (f.length - begun)) fs 0).2.1 + 1, (takeTo (most - (f.length - begun)) fs 0).2.2)

/-- Each frame has a byte, and of the first one not all went. -/
def FrOk (fr : List (List Int)) (begun : Nat) : Prop := (∀ f ∈ fr, 0 < f.length) ∧ (∀ f fs, fr = f :: fs → begun < f.length) ∧ (fr = [] → begun = 0)

theorem takeTo_eq (fr : List (List Int)) : ∀ (most begun : Nat), FrOk fr begun →
    (takeTo most fr begun).1 = (fr.flatten.drop begun).take most ∧
    goesTo (lensOf fr) ((begun + min most (total fr - begun) : Nat) : Int) = ((takeTo most fr begun).2.1, (((takeTo most fr begun).2.2 : Nat) : Int)) ∧
    FrOk (fr.drop (takeTo most fr begun).2.1) (takeTo most fr begun).2.2 ∧
    (fr.drop (takeTo most fr begun).2.1).flatten.drop (takeTo most fr begun).2.2 = (fr.flatten.drop begun).drop most := by
  induction fr with
  | nil =>
    intro most begun h
    have := h.2.2 rfl
    subst this
    simp [takeTo, total, lensOf, goesTo, FrOk]
  | cons f fs ih =>
    intro most begun h
    have hb := h.2.1 f fs rfl
    have htot : total (f :: fs) = f.length + total fs := by simp [total]
    have hfl : (f :: fs).flatten = f ++ fs.flatten := rfl
    have hdr : (f ++ fs.flatten).drop begun = f.drop begun ++ fs.flatten := List.drop_append_of_le_length (by omega)
    have hdl : (f.drop begun).length = f.length - begun := by simp
    by_cases h0 : most = 0
    · subst h0
      have hg : goesTo (lensOf (f :: fs)) ((begun : Nat) : Int) = (0, (begun : Int)) := by
        simp only [lensOf, List.map_cons, goesTo]
        rw [if_neg (by omega)]
      simp only [takeTo, if_pos, Nat.zero_min, Nat.add_zero, List.drop_zero, List.take_zero]
      exact ⟨trivial, hg, h, trivial⟩
    · by_cases h1 : most < f.length - begun
      · simp only [takeTo, if_neg h0, if_pos h1, List.drop_zero]
        refine ⟨?_, ?_, ⟨h.1, ?_, by simp⟩, ?_⟩
        · rw [hfl, hdr, List.take_append_of_le_length (by omega)]
        · simp only [lensOf, List.map_cons, goesTo]
          rw [if_neg (by omega), show begun + min most (total (f :: fs) - begun) = begun + most from by omega]
        · intro g gs hg
          injection hg with hg _
          subst hg
          omega
        · rw [List.drop_drop]
      · have hfs : FrOk fs 0 := ⟨fun g hg => h.1 g (List.mem_cons_of_mem _ hg), fun g gs hg => h.1 g (by rw [hg]; simp), fun _ => rfl⟩
        obtain ⟨i1, i2, i3, i4⟩ := ih (most - (f.length - begun)) 0 hfs
        simp only [takeTo, if_neg h0, if_neg h1, List.drop_succ_cons]
        refine ⟨?_, ?_, i3, ?_⟩
        · rw [hfl, hdr, i1, List.drop_zero, List.take_append, hdl, List.take_of_length_le (l := f.drop begun) (by omega)]
        · simp only [lensOf, List.map_cons, goesTo]
          rw [if_pos (by omega)]
          have he : (((begun + min most (total (f :: fs) - begun) : Nat) : Int) - (f.length : Int)) = ((0 + min (most - (f.length - begun)) (total fs - 0) : Nat) : Int) := by omega
          rw [he]
          have := i2
          simp only [lensOf] at this
          rw [this]
        · rw [i4, hfl, hdr, List.drop_zero, List.drop_append, hdl, List.drop_of_length_le (l := f.drop begun) (by omega), List.nil_append]

/-- Frames as they are written down, at block b. -/
structure Sh (W : World) (b : Nat) (V : Value) (ok : Nat → Prop) (fr : List (List Int)) (room begun left gone : Int) (sh : Bool) : Prop where
  blk : Blk W b 40 #[.int .i64 room, .int .i64 begun, V, .int .u64 left, .int .u64 gone, .bool sh]
  vs : ∃ vs, Row W 28 1 V fr.length vs ∧ ∀ (j : Nat) (x : List Int), fr[j]? = some x → ∃ u, vs[j]? = some u ∧ Sees W ok 1 u x.length (ints .u8 x)
  okb : ¬ ok b
  okV : ∀ k, some k = V.ownBlock → ¬ ok k
section
variable {W W1 : World} {b : Nat} {V : Value} {ok S : Nat → Prop} {fr : List (List Int)} {room begun left gone : Int} {sh : Bool}
theorem Sh.frs (h : Sh W b V ok fr room begun left gone sh) : Frs W (fun k => some k = V.ownBlock ∨ ok k) V fr := by
  obtain ⟨vs, h1, h2⟩ := h.vs
  refine ⟨vs, h1.sees (fun _ h => .inl h), fun j x hx => ?_⟩
  obtain ⟨u, hu, hs⟩ := h2 j x hx
  exact ⟨u, hu, hs.mono (fun _ h _ => .inr h)⟩
theorem Sh.keep (h : Sh W b V ok fr room begun left gone sh) (hk : Keep S W W1) (hb : ¬ S b) (hV : ∀ k, some k = V.ownBlock → ¬ S k) (ho : ∀ k, ok k → k < W.heap.size → ¬ S k) : Sh W1 b V ok fr room begun left gone sh := by
  obtain ⟨vs, h1, h2⟩ := h.vs
  refine ⟨h.blk.keep hk hb, ⟨vs, h1.keep hk hV, fun j x hx => ?_⟩, h.okb, h.okV⟩
  obtain ⟨u, hu, hs⟩ := h2 j x hx
  exact ⟨u, hu, hs.keep hk ho⟩
theorem Sh.mono {ok' : Nat → Prop} (h : Sh W b V ok fr room begun left gone sh) (hn : ∀ k, ok k → k < W.heap.size → ok' k) (hb : ¬ ok' b) (hV : ∀ k, some k = V.ownBlock → ¬ ok' k) : Sh W b V ok' fr room begun left gone sh := by
  obtain ⟨vs, h1, h2⟩ := h.vs
  refine ⟨h.blk, ⟨vs, h1, fun j x hx => ?_⟩, hb, hV⟩
  obtain ⟨u, hu, hs⟩ := h2 j x hx
  exact ⟨u, hu, hs.mono hn⟩
theorem Sh.len (h : Sh W b V ok fr room begun left gone sh) : ∃ A c, V = .slice A fr.length c := h.frs.slice
theorem Sh.drewN (h : Sh W b V ok fr room begun left gone sh) (n : Nat) : Sh (W.drewN n) b V ok fr room begun left gone sh := ⟨h.blk, h.vs, h.okb, h.okV⟩
/-- Any cell but the frames' is written. -/
theorem Sh.cell_ (h : Sh W b V ok fr room begun left gone sh) {i : Nat} {u : Value} {begun' left' gone' : Int} {sh' : Bool}
    (he : (#[.int .i64 room, .int .i64 begun, V, .int .u64 left, .int .u64 gone, .bool sh] : Array Value).setIfInBounds i u = #[.int .i64 room, .int .i64 begun', V, .int .u64 left', .int .u64 gone', .bool sh']) :
    Sh (W.setCell ⟨b, i, none⟩ u) b V ok fr room begun' left' gone' sh' := by
  obtain ⟨vs, h1, h2⟩ := h.vs
  have hk : Keep (fun k => k = b) W (W.setCell ⟨b, i, none⟩ u) := (Keep.refl (fun k => k = b) W).setCell (fun _ => rfl) _
  refine ⟨he ▸ h.blk.set_ i u, ⟨vs, h1.keep hk (fun k hk e => h1.ne_blk h.blk (by decide) (e ▸ hk)), fun j x hx => ?_⟩, h.okb, h.okV⟩
  obtain ⟨v, hv, hs⟩ := h2 j x hx
  exact ⟨v, hv, hs.keep hk (fun k hk _ e => h.okb (e ▸ hk))⟩
/-- The first frames go. -/
theorem Sh.drop_ (h : Sh W b V ok fr room begun left gone sh) {k : Nat} (hk : k ≤ fr.length) :
    Sh (W.setCell ⟨b, 2, none⟩ (fromVal V k)) b (fromVal V k) ok (fr.drop k) room begun left gone sh ∧ (fromVal V k).ownBlock = V.ownBlock := by
  obtain ⟨vs, h1, h2⟩ := h.vs
  obtain ⟨h3, h4⟩ := h1.from_ hk
  have hkp : Keep (fun k => k = b) W (W.setCell ⟨b, 2, none⟩ (fromVal V k)) := (Keep.refl (fun k => k = b) W).setCell (fun _ => rfl) _
  refine ⟨⟨h.blk.set_ 2 _, ⟨vs.drop k, ?_, fun j x hx => ?_⟩, h.okb, fun j hj => h.okV j (hj.trans h4)⟩, h4⟩
  · rw [List.length_drop]
    exact h3.keep hkp (fun j hj e => h1.ne_blk h.blk (by decide) (e ▸ (hj.trans h4)))
  · rw [List.getElem?_drop] at hx
    obtain ⟨v, hv, hs⟩ := h2 _ x hx
    exact ⟨v, by rw [List.getElem?_drop]; exact hv, hs.keep hkp (fun k hk _ e => h.okb (e ▸ hk))⟩
end

section
variable {w : World} {b : Nat} {V : Value} {ok : Nat → Prop} {fr : List (List Int)} {room begun left gone : Int} {sh : Bool}
theorem shWaits_any (h : Sh w b V ok fr room begun left gone sh) (h0 : 0 ≤ begun) (h1 : begun ≤ 1048576) (ht : total fr ≤ 1048576) (hl : fr.length ≤ 1048576) :
    Calls Try.prog 10 #[.pointer (some ⟨b, 0, none⟩)] w (Ends fun e w' => e = .returned (.int .i64 ((total fr : Int) - begun)) ∧ w = w') := by
  have c1 := h.blk.cell 1
  have c2 := h.blk.cell 2
  have hF := h.frs
  obtain ⟨A, c, rfl⟩ := h.len
  have HF := Lib.hid hF
  have HH := Lib.hid h
  clear h hF
  go_enter Try.func10, Try.ntmps10
  go_wp2_with fail
  go_loop [3, 4] (fun s i => ∃ k : Nat, k ≤ fr.length ∧ i = .int .i64 k ∧ s = .int .i64 ((total (fr.take k) : Int) - begun)) (fun _ i => fr.length - (intOf i).toNat)
  case atStart => exact ⟨0, Nat.zero_le _, rfl, by simp [total]⟩
  case round =>
    obtain ⟨k, hk, rfl, rfl⟩ := hrel
    by_cases hlt : k < fr.length
    · obtain ⟨g, off, A', c', rfl, hg, hc, hs⟩ := HF.out.at_ hlt
      have htk := List.take_succ_eq_append_getElem hlt
      have h1 : total (fr.take (k + 1)) = total (fr.take k) + fr[k].length := by rw [htk, total_snoc]
      have h2 := total_take_le fr (k + 1)
      have h3 : ((total (fr.take k) : Nat) : Int) + (fr[k].length : Int) ≤ 1048576 := by omega
      have H1 := Lib.hid h1
      clear hs htk h1 h2
      go_wp2_with fail
      go_round
      case rel => exact ⟨k + 1, by omega, by go_num, by rw [H1.out]; go_num⟩
      case measure => simp [intOf]; omega
    · go_wp2_with fail
      go_ret
      obtain rfl : k = fr.length := by omega
      have h : total (fr.take fr.length) = total fr := by rw [List.take_length]
      exact ⟨congrArg (fun n : Nat => Ending.returned (.int .i64 ((n : Int) - begun))) h, rfl⟩

theorem shTake_any {g : Nat} (h : Sh w b V ok fr room g left gone sh) (hok : FrOk fr g) (ht : total fr ≤ 1048576) (hl : fr.length ≤ 1048576) (most : Nat) (hm : most ≤ 1048576) (T : List Int × Nat × Nat) (hT : takeTo most fr g = T) :
    Calls Try.prog 16 #[.pointer (some ⟨b, 0, none⟩), .int .i64 most] w (Ends fun e w' => ∃ r V', e = .returned (.tuple #[r, .int .i64 T.2.1]) ∧ Row w' 5 1 r T.1.length (ints .u8 T.1) ∧ (∀ k, some k = r.ownBlock → w.heap.size ≤ k) ∧
      Sh w' b V' ok (fr.drop T.2.1) room T.2.2 left gone sh ∧ V'.ownBlock = V.ownBlock ∧ Keep (fun k => k = b) w w') := by
  have h1 := h.mono (ok' := fun k => ok k ∧ k < w.heap.size) (fun k hk hlt => ⟨hk, hlt⟩) (fun e => h.okb e.1) (fun k hk e => h.okV k hk e.1)
  have HH := Lib.hid h
  have H1 := Lib.hid h1
  have HT := Lib.hid hT
  have HO := Lib.hid hok
  clear h h1 hT hok
  go_enter Try.func16, Try.ntmps16
  go_wp2_with fail
  go_loopw [1, 6, 7] (fun mv o' ev wr => ∃ (m e g' : Nat) (o : Value) (os : List Int) (V' : Value), mv = .int .i64 m ∧ ev = .int .i64 e ∧ o = o' ∧ e ≤ fr.length ∧ m ≤ 1048576 ∧ os.length + total (fr.drop e) ≤ total fr ∧
      Hid (os ++ (takeTo m (fr.drop e) g').1 = T.1 ∧ e + (takeTo m (fr.drop e) g').2.1 = T.2.1 ∧ (takeTo m (fr.drop e) g').2.2 = T.2.2) ∧ Hid (FrOk (fr.drop e) g') ∧
      Row wr 5 1 o os.length (ints .u8 os) ∧ (∀ k, some k = o.ownBlock → w.heap.size ≤ k) ∧ Sh wr b V' (fun k => ok k ∧ k < w.heap.size) (fr.drop e) room g' left gone sh ∧ V'.ownBlock = V.ownBlock ∧ Keep (fun k => k = b) w wr) (fun _ _ ev _ => fr.length - (intOf ev).toNat)
  case atStart => exact ⟨most, 0, g, _, [], V, rfl, rfl, rfl, Nat.zero_le _, hm, by simp, ⟨by simpa using HT.out ▸ rfl, by simpa using HT.out ▸ rfl, by simpa using HT.out ▸ rfl⟩, by simpa using HO, Row.nil _ _ _, by simp [Value.ownBlock], by simpa using H1.out, rfl, Keep.refl _ _⟩
  case round =>
    obtain ⟨m, e, g', o, os, V', rfl, rfl, rfl, he, hm2, hos, hq, hfo, hr, ho, hsh, hV, hk⟩ := hrel
    have c1 := hsh.blk.cell 1
    have c2 := hsh.blk.cell 2
    have f1 := hsh.blk.frozen 1
    have f2 := hsh.blk.frozen 2
    have hF := hsh.frs
    obtain ⟨A, c, rfl⟩ := hsh.len
    have HF := Lib.hid hF
    have HS := Lib.hid hsh
    have HR := Lib.hid hr
    have HW := Lib.hid ho
    have HV := Lib.hid hV
    have HK := Lib.hid hk
    have hr0 := hr
    clear hF hsh hr ho hV hk
    generalize hd : fr.drop e = d at *
    have HD := Lib.hid hd
    have hdl : d.length + e = fr.length := by rw [← hd, List.length_drop]; omega
    clear hd
    by_cases h0 : m = 0
    · subst h0
      go_wp2_with fail
      go_ret2
      have hq := hq.out
      have h0 : takeTo 0 d g' = ([], 0, g') := by cases d <;> simp [takeTo]
      rw [h0] at hq
      simp only [List.append_nil, Nat.add_zero] at hq
      obtain ⟨rfl, rfl, rfl⟩ := hq
      exact ⟨_, _, rfl, HR.out, HW.out, HD.out ▸ (HS.out.mono (fun _ h _ => h.1) HH.out.okb (fun k hk => HH.out.okV k (hk.trans HV.out))), HV.out, HK.out⟩
    · rcases d with _ | ⟨f, fs⟩
      · go_wp2_with fail
        go_ret2
        have hq := hq.out
        simp only [takeTo, List.append_nil, Nat.add_zero] at hq
        obtain ⟨rfl, rfl, rfl⟩ := hq
        exact ⟨_, _, rfl, HR.out, HW.out, HD.out ▸ (HS.out.mono (fun _ h _ => h.1) HH.out.okb (fun k hk => HH.out.okV k (hk.trans HV.out))), HV.out, HK.out⟩
      · have hlen : (f :: fs).length = fs.length + 1 := rfl
        have hg := hfo.out.2.1 f fs rfl
        have hft : total (f :: fs) = f.length + total fs := by simp [total]
        obtain ⟨gx, off, A', c', rfl, hgx, hc, hs⟩ := HF.out.at_ (k := 0) (by simp)
        have hc0 : wr.cell? ⟨gx, off, none⟩ = some (.slice A' f.length c') := hc
        have hs : Sees wr _ 1 (.slice A' f.length c') f.length (ints .u8 f) := hs
        have hcap : f.length ≤ c' := hs.cap
        have hs' := hs.from_ g' (c' - g') (c' = g') (fun h => by show f.length = g'; omega) (Nat.le_of_lt hg) (by show f.length - g' ≤ c' - g'; omega)
        have hfl : f.length ≤ 1048576 := by omega
        have hos2 : os.length + f.length + total fs ≤ 1048576 := by omega
        rw [if_neg (show ¬ c' = g' by omega), show List.drop g' (ints .u8 f) = ints .u8 (f.drop g') from by simp [ints]] at hs'
        have HS1 := Lib.hid hs'
        obtain ⟨Ao, co, rfl⟩ := hr0.slice
        clear hs hs' hc hgx hr0
        by_cases hlt : m < f.length - g'
        · have hltI : (m : Int) < ((f.length - g' : Nat) : Int) := by omega
          have hml : ((f.drop g').take m).length = m := by simp; omega
          have hsrc := (HS1.out.upto m (c' - g') (by omega) (by omega)).src (fun u hu => ints_one _ _ u (List.mem_of_mem_take hu))
          rw [show List.take m (ints .u8 (f.drop g')) = ints .u8 ((f.drop g').take m) from by simp [ints]] at hsrc
          obtain ⟨A5, c5, he5, hsrc⟩ := hsrc
          injection he5 with he5 _ he6
          subst he5
          have HSR := Lib.hid hsrc
          clear hsrc he6
          go_wp2_with fail
          go_region
          go_wp2_with (first | (at_builtin; go_must (refine wpList_append_row rfl _ _ 28 rfl ty28 (v := .slice Ao os.length co) (n := os.length) (xs := ints .u8 os) rfl ?hrow _ _ _ (ints .u8 ((f.drop g').take m)) rfl ?hsrc ?h63 ?hb ?_; (case hrow => exact HR.out.drew); (case hsrc => exact HSR.out); (case h63 => simp only [Go.maxLen]; omega); (case hb => omega); intro v2 w1 hr1 hk1 ho1; have W1 := Lib.hid ((((Keep.refl (fun k => some k = (Value.slice Ao os.length co).ownBlock) wr).drew).then hk1 (fun _ _ h => h))); have S1 := Lib.hid (HS.out.keep W1.out (HR.out.ne_blk HS.out.blk (by decide)) (fun k hk e => by obtain ⟨vs, hv, _⟩ := HS.out.vs; exact hv.ne_row HR.out (by decide) k hk e) (fun k hk _ e => by have := HW.out k e; omega)); have d1 := S1.out.blk.cell 1; have e1 := S1.out.blk.frozen 1; have d2 := S1.out.blk.cell 2; have e2 := S1.out.blk.frozen 2; obtain ⟨A2, c2, rfl⟩ := hr1.slice; have R1 := Lib.hid hr1; have K1 := Lib.hid hk1; have O1 := Lib.hid ho1; clear hr1 hk1 ho1)))
          go_ret2
          obtain ⟨q1, q2, q3⟩ := hq.out
          simp only [takeTo, if_neg h0, if_pos hlt, Nat.add_zero] at q1 q2 q3
          have ho2 : ∀ k, some k = (Value.slice A2 (os.length + m) c2).ownBlock → w.heap.size ≤ k := fun k hk => by
            rcases O1.out with h | h
            · exact HW.out k (hk.trans h)
            · rw [h] at hk
              injection hk with hk
              have := HK.out.size
              simp at hk
              omega
          have hk2 : Keep (fun k => k = b) w1 (w1.setCell ⟨b, 1, none⟩ (.int .i64 ((g' : Int) + (m : Int)))) := (Keep.refl (fun k => k = b) _).setCell (fun _ => rfl) _
          have hr2 := R1.out.keep hk2 (fun k hk e => R1.out.ne_blk S1.out.blk (by decide) (e ▸ hk))
          have hkk : Keep (fun k => k = b) w w1 := HK.out.then W1.out (fun k hlt hk => by have := HW.out k hk; omega)
          rw [← q1, ← q2, ← q3, HD.out]
          refine ⟨_, _, rfl, ?_, ho2, ((S1.out.mono (fun _ h _ => h.1) HH.out.okb (fun k hk => HH.out.okV k (hk.trans HV.out))).cell_ (begun' := ((g' + m : Nat) : Int)) rfl), HV.out, hkk.then hk2 (fun _ _ h => h)⟩
          rw [List.length_append, hml, ints_append]
          exact hr2
        · have hltI : ¬ ((m : Int) < ((f.length - g' : Nat) : Int)) := by omega
          have hml : (f.drop g').length = f.length - g' := by simp
          have hsrc := HS1.out.src (ints_one _ _)
          obtain ⟨A5, c5, he5, hsrc⟩ := hsrc
          injection he5 with he5 _ he6
          subst he5
          have HSR := Lib.hid hsrc
          clear hsrc he6
          go_wp2_with fail
          go_region
          go_wp2_with (first | (at_builtin; go_must (refine wpList_append_row rfl _ _ 28 rfl ty28 (v := .slice Ao os.length co) (n := os.length) (xs := ints .u8 os) rfl ?hrow _ _ _ (ints .u8 (f.drop g')) rfl ?hsrc ?h63 ?hb ?_; (case hrow => exact HR.out.drew); (case hsrc => exact HSR.out); (case h63 => simp only [Go.maxLen]; omega); (case hb => omega); intro v2 w1 hr1 hk1 ho1; have W1 := Lib.hid ((((Keep.refl (fun k => some k = (Value.slice Ao os.length co).ownBlock) wr).drew).then hk1 (fun _ _ h => h))); have S1 := Lib.hid (HS.out.keep W1.out (HR.out.ne_blk HS.out.blk (by decide)) (fun k hk e => by obtain ⟨vs, hv, _⟩ := HS.out.vs; exact hv.ne_row HR.out (by decide) k hk e) (fun k hk _ e => by have := HW.out k e; omega)); have d1 := S1.out.blk.cell 1; have e1 := S1.out.blk.frozen 1; have d2 := S1.out.blk.cell 2; have e2 := S1.out.blk.frozen 2; obtain ⟨A2, c2, rfl⟩ := hr1.slice; have R1 := Lib.hid hr1; have K1 := Lib.hid hk1; have O1 := Lib.hid ho1; clear hr1 hk1 ho1)))
          go_roundw
          case rel =>
            obtain ⟨q1, q2, q3⟩ := hq.out
            simp only [takeTo, if_neg h0, if_neg hlt] at q1 q2 q3
            have ho2 : ∀ k, some k = (Value.slice A2 (os.length + (f.length - g')) c2).ownBlock → w.heap.size ≤ k := fun k hk => by
              rcases O1.out with h | h
              · exact HW.out k (hk.trans h)
              · rw [h] at hk
                injection hk with hk
                have := HK.out.size
                simp at hk
                omega
            have hkk : Keep (fun k => k = b) w w1 := HK.out.then W1.out (fun k hlt hk => by have := HW.out k hk; omega)
            have hfv : fromVal (.slice (some ⟨gx, off, none⟩) (f :: fs).length c) 1 = .slice (if c = 1 then some ⟨gx, off, none⟩ else some ⟨gx, off + 1, none⟩) fs.length (c - 1) := by
              simp [fromVal, Addr.add_lit]
            obtain ⟨hs3, hv3⟩ := S1.out.drop_ (k := 1) (by simp)
            have hs4 := hs3.cell_ (i := 1) (u := .int .i64 0) (begun' := ((0 : Nat) : Int)) rfl
            rw [hfv] at hs4 hv3
            have hk2 : Keep (fun k => k = b) w1 ((w1.setCell ⟨b, 2, none⟩ (.slice (if c = 1 then some ⟨gx, off, none⟩ else some ⟨gx, off + 1, none⟩) fs.length (c - 1))).setCell ⟨b, 1, none⟩ (.int .i64 0)) := ((Keep.refl (fun k => k = b) _).setCell (fun _ => rfl) _).setCell (fun _ => rfl) _
            have hr2 := R1.out.keep hk2 (fun k hk e => R1.out.ne_blk S1.out.blk (by decide) (e ▸ hk))
            have hde : fr.drop (e + 1) = fs := by
              rw [← List.drop_drop, HD.out]
              rfl
            have hfs : FrOk fs 0 := ⟨fun x hx => hfo.out.1 x (List.mem_cons_of_mem _ hx), fun x xs hx => hfo.out.1 x (by rw [hx]; simp), fun _ => rfl⟩
            refine ⟨m - (f.length - g'), e + 1, 0, _, os ++ f.drop g', _, by go_num, by go_num, rfl, by omega, by omega, by rw [hde, List.length_append, hml]; omega, ?_, ?_, ?_, ho2, ?_, hv3.trans HV.out, hkk.then hk2 (fun _ _ h => h)⟩
            · rw [hde]
              exact ⟨by rw [List.append_assoc]; exact q1, by rw [← q2]; omega, q3⟩
            · rw [hde]
              exact hfs
            · rw [List.length_append, hml, ints_append]
              exact hr2
            · rw [hde]
              exact hs4
          case measure => simp [intOf]; omega
end
end Go.Proofs.Ytcahmhenlpplcaa
