/-
  Frames that a turn makes, and puts to what is written down.
-/
import Derived.Test.YtcahmhenlpplcaaTake
namespace Go.Proofs.Ytcahmhenlpplcaa
open Go.RowKit

theorem framesOf_total (l : List Nat) : ∀ i, total (framesOf i l) ≤ 19 * l.length := by
  induction l with
  | nil => intro i; simp [framesOf, total]
  | cons x xs ih =>
    intro i
    have := ih (i + 1)
    simp only [framesOf, total_cons, frameOf_len, List.length_cons]
    omega
/-- Frames in new memory. -/
structure NewFrs (W0 W : World) (o : Value) (fs : List (List Int)) (vs : List Value) : Prop where
  row : Row W 28 1 o fs.length vs
  own : ∀ k, some k = o.ownBlock → W0.heap.size ≤ k
  one : ∀ u ∈ vs, u.oneCell' = true
  at_ : ∀ (j : Nat) (x : List Int), fs[j]? = some x → ∃ u, vs[j]? = some u ∧ Sees W (fun k => W0.heap.size ≤ k ∧ ¬ some k = o.ownBlock) 1 u x.length (ints .u8 x)
section
variable {W0 W W1 W2 : World} {o : Value} {fs : List (List Int)} {vs : List Value}
theorem NewFrs.nil (W : World) : NewFrs W W (.slice none 0 0) [] [] := ⟨Row.nil _ _ _, by simp [Value.ownBlock], by simp, by simp⟩
theorem NewFrs.frs (h : NewFrs W0 W o fs vs) : Frs W (fun k => W0.heap.size ≤ k) o fs :=
  ⟨vs, h.row.sees h.own, fun j x hx => by
    obtain ⟨u, hu, hs⟩ := h.at_ j x hx
    exact ⟨u, hu, hs.mono (fun _ h _ => h.1)⟩⟩
theorem NewFrs.keep {S : Nat → Prop} (h : NewFrs W0 W o fs vs) (hk : Keep S W W1) (hs : ∀ k, W0.heap.size ≤ k → k < W.heap.size → ¬ S k) : NewFrs W0 W1 o fs vs :=
  ⟨h.row.keep hk (fun k hk => hs k (h.own k hk) (h.row.lt k hk)), h.own, h.one, fun j x hx => by
    obtain ⟨u, hu, hq⟩ := h.at_ j x hx
    exact ⟨u, hu, hq.keep hk (fun k hok hlt => hs k hok.1 hlt)⟩⟩
/-- One more. -/
theorem NewFrs.snoc (h : NewFrs W0 W o fs vs) (h0 : W0.heap.size ≤ W.heap.size) {r : Value} {x : List Int} (hr : Row W1 5 1 r x.length (ints .u8 x)) (hn : ∀ k, some k = r.ownBlock → W.heap.size ≤ k) (hb : Below W.heap.size W W1) {ob : Obj}
    {v1 : Value} (hv : Row W2 28 1 v1 (fs.length + 1) (vs ++ [r])) (hk : Keep (fun k => some k = o.ownBlock) (W1.alloc ob) W2) (ho : v1.ownBlock = o.ownBlock ∨ v1.ownBlock = some (W1.alloc ob).heap.size) : NewFrs W0 W2 v1 (fs ++ [x]) (vs ++ [r]) := by
  have hsz := hb.size
  refine ⟨by rw [List.length_append]; exact hv, fun k hk => ?_, fun u hu => ?_, fun j y hy => ?_⟩
  · rcases ho with e | e
    · exact h.own k (hk.trans e)
    · rw [e] at hk
      injection hk with hk
      simp only [World.size_alloc] at hk
      omega
  · rcases List.mem_append.1 hu with hu | hu
    · exact h.one u hu
    · simp only [List.mem_singleton] at hu
      subst hu
      exact hr.one
  · have hlen : vs.length = fs.length := by simpa using h.row.len
    have hkA : Keep (fun _ => False) W (W1.alloc ob) := (Keep.of_below hb).alloc ob
    by_cases hj : j < fs.length
    · rw [List.getElem?_append_left hj] at hy
      obtain ⟨u, hu, hq⟩ := h.at_ j y hy
      refine ⟨u, by rw [List.getElem?_append_left (by omega)]; exact hu, ?_⟩
      have q1 := (hq.mono (ok' := fun k => (W0.heap.size ≤ k ∧ ¬ some k = o.ownBlock) ∧ k < W.heap.size) (fun k h1 h2 => ⟨h1, h2⟩)).keep hkA (fun _ _ _ h => h)
      refine (q1.keep hk (fun k hok _ => hok.1.2)).mono (fun k hok _ => ⟨hok.1.1, fun e => ?_⟩)
      rcases ho with e2 | e2
      · exact hok.1.2 (e.trans e2)
      · rw [e2] at e
        injection e with e
        simp only [World.size_alloc] at e
        have := hok.2
        omega
    · rw [List.getElem?_append_right (by omega)] at hy
      have hj0 : j - fs.length = 0 := by
        have := (List.getElem?_eq_some_iff.1 hy).1
        simp only [List.length_cons, List.length_nil] at this
        omega
      rw [hj0] at hy
      injection hy with hy
      subst hy
      refine ⟨r, by rw [List.getElem?_append_right (by omega), hlen, hj0]; rfl, ?_⟩
      have hA1 : Keep (fun _ => False) W1 (W1.alloc ob) := (Keep.refl _ _).alloc ob
      have q1 := (hr.sees (ok := fun k => some k = r.ownBlock ∧ k < W1.heap.size) (fun k hk => ⟨hk, hr.lt k hk⟩)).keep hA1 (fun _ _ _ h => h)
      refine (q1.keep hk (fun k hok _ e => ?_)).mono (fun k hok _ => ⟨?_, fun e => ?_⟩)
      · have h1 := hn k hok.1
        have h2 := h.row.lt k e
        omega
      · have h1 := hn k hok.1
        omega
      · rcases ho with e2 | e2
        · have h1 := hn k hok.1
          have h2 := h.row.lt k (e.trans e2)
          omega
        · rw [e2] at e
          injection e with e
          simp only [World.size_alloc] at e
          have := hok.2
          omega
end

/-- New frames are put to what is written down. -/
theorem PI.push_ {A : Adr} {D : Dat} {n0 : Nat} {w0 W W1 : World} {room : Int} {LI LB : Nat} {ls data : List Int} {part : Int} {fr : List (List Int)} {begun left gone : Int} {sh : Bool} {l g : Int} {s : Bool}
    (h : PI A D n0 w0 room LI LB ls data part fr begun left gone sh l g s W) {W0 : World} (hp0 : PI A D n0 w0 room LI LB ls data part fr begun left gone sh l g s W0)
    {o : Value} {fs : List (List Int)} {vs : List Value} (hf : NewFrs W0 W o fs vs) {ws : List Value} (hw : Row W 28 1 D.V fr.length ws)
    (hws : ∀ (j : Nat) (x : List Int), fr[j]? = some x → ∃ u, ws[j]? = some u ∧ Sees W (okF A D.vI D.vB D.V n0) 1 u x.length (ints .u8 x))
    {v1 : Value} (hv : Row W1 28 1 v1 (fr.length + fs.length) (ws ++ vs)) (hk : Keep (fun k => some k = D.V.ownBlock) W W1) (ho : v1.ownBlock = D.V.ownBlock ∨ v1.ownBlock = some W.heap.size) :
    (PI A { D with V := v1 } n0 w0 room LI LB ls data part (fr ++ fs) begun left gone sh l g s (W1.setCell ⟨A.bx, 2, none⟩ v1) ∧ Still W (W1.setCell ⟨A.bx, 2, none⟩ v1)) ∧ NewFrs W0 (W1.setCell ⟨A.bx, 2, none⟩ v1) o fs vs := by
  have hn0 : n0 ≤ W0.heap.size := Nat.le_trans hp0.n0s hp0.bel.size
  have hbx0 := hp0.she.blk.lt
  have hbx := h.she.blk
  have hbV : ∀ k, some k = D.V.ownBlock → k < W0.heap.size := by
    obtain ⟨_, hV0, _⟩ := hp0.she.vs
    exact hV0.lt
  have hxV : ¬ some A.bx = D.V.ownBlock := hw.ne_blk hbx (by decide)
  have hbx1 := hbx.keep hk hxV
  have hk2 : Keep (fun k => k = A.bx) W1 (W1.setCell ⟨A.bx, 2, none⟩ v1) := (Keep.refl (fun k => k = A.bx) _).setCell (fun _ => rfl) _
  have hkk : Keep (fun k => k = A.bx ∨ some k = D.V.ownBlock) W (W1.setCell ⟨A.bx, 2, none⟩ v1) := (hk.mono (fun k _ h => .inr h)).then hk2 (fun k _ h => .inl h)
  have hlen : ws.length = fr.length := by simpa using hw.len
  have hlen2 : vs.length = fs.length := by simpa using hf.row.len
  have hf2 : NewFrs W0 (W1.setCell ⟨A.bx, 2, none⟩ v1) o fs vs := hf.keep hkk (fun k hk _ e => by
    rcases e with e | e
    · omega
    · have := hbV k e
      omega)
  have hoqlt : ∀ k, OqS A.bq A.cq D.vI D.vB k → k < W0.heap.size := by
    rintro k (rfl | rfl | e | e)
    · exact hp0.oq.ln.blk.lt
    · exact hp0.oq.bq.blk.lt
    · exact hp0.oq.ln.row.lt k e
    · exact hp0.oq.bq.row.lt k e
  have hbw := Blk.lt hp0.wi
  have hb4 := hp0.c4.lt
  have hb5 := hp0.c5.lt
  have hb9 := hp0.c9.lt
  obtain ⟨hp, hst⟩ := h.she'_ (W' := W1.setCell ⟨A.bx, 2, none⟩ v1) (V' := v1) (fr' := fr ++ fs) (begun' := begun) (left' := left) (gone' := gone) (sh' := sh)
    ⟨hbx1.set_ 2 v1, ⟨ws ++ vs, by rw [List.length_append]; exact hv.keep hk2 (fun k hk e => hv.ne_blk hbx1 (by decide) (e ▸ hk)), fun j x hx => by
      by_cases hj : j < fr.length
      · rw [List.getElem?_append_left hj] at hx
        obtain ⟨u, hu, hs⟩ := hws j x hx
        refine ⟨u, by rw [List.getElem?_append_left (by omega)]; exact hu, ?_⟩
        refine ((hs.mono (ok' := fun k => okF A D.vI D.vB D.V n0 k ∧ k < W.heap.size) (fun k h1 h2 => ⟨h1, h2⟩)).keep hkk (fun k hok _ e => e.elim hok.1.2.1 hok.1.2.2.1)).mono (fun k hok hlt => ⟨hok.1, hlt, fun e => ?_⟩)
        rcases ho with e2 | e2
        · exact hok.1.2.2.1 (e.trans e2)
        · rw [e2] at e
          injection e with e
          have := hok.2
          omega
      · rw [List.getElem?_append_right (by omega)] at hx
        obtain ⟨u, hu, hs⟩ := hf.at_ _ x hx
        refine ⟨u, by rw [List.getElem?_append_right (by omega), hlen]; exact hu, ?_⟩
        refine ((hs.mono (ok' := fun k => W0.heap.size ≤ k ∧ k < W.heap.size) (fun k h1 h2 => ⟨h1.1, h2⟩)).keep hkk (fun k hok _ e => e.elim (fun e => by have := hok.1; omega) (fun e => by have := hbV k e; have := hok.1; omega))).mono (fun k hok hlt => ⟨⟨by have := hok.1; omega, by have := hok.1; omega, fun e => by have := hbV k e; have := hok.1; omega, fun e => by have := hoqlt k e; have := hok.1; omega, by have := hok.1; omega, by have := hok.1; omega, by have := hok.1; omega, by have := hok.1; omega⟩, hlt, fun e => ?_⟩)
        rcases ho with e2 | e2
        · have := hbV k (e.trans e2)
          have := hok.1
          omega
        · rw [e2] at e
          injection e with e
          have := hok.2
          omega⟩, fun e => e.1.2.1 rfl, fun k hk e => e.2.2 hk⟩
    (fun k hk => ho.elim (fun e => .inl (hk.trans e)) (fun e => .inr (by rw [e] at hk; injection hk with hk; omega))) hkk
  exact ⟨⟨hp, hst⟩, hf2⟩
end Go.Proofs.Ytcahmhenlpplcaa
