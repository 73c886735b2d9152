/-
  What holds between two turns: the queue, the window, and both as somebody writes them down.
-/
import Derived.Test.YtcahmhenlpplcaaIter
namespace Go.Proofs.Ytcahmhenlpplcaa
open Go.RowKit

structure Adr where
  (b4 b5 b9 bx bq cq bw : Nat)
structure Dat where
  (vI vB V : Value)
  (lens all : List Int)
  (gI gB : Nat)

/-- Where frames' bytes may lie. -/
def okF (A : Adr) (vI vB V : Value) (n0 : Nat) (k : Nat) : Prop :=
  n0 ≤ k ∧ k ≠ A.bx ∧ ¬ some k = V.ownBlock ∧ ¬ OqS A.bq A.cq vI vB k ∧ k ≠ A.bw ∧ k ≠ A.b4 ∧ k ≠ A.b5 ∧ k ≠ A.b9

structure PI (A : Adr) (D : Dat) (n0 : Nat) (w0 : World) (room : Int) (LI LB : Nat) (ls data : List Int) (part : Int) (fr : List (List Int)) (begun left gone : Int) (sh : Bool) (l g : Int) (s : Bool) (W : World) : Prop where
  oq : Oq W A.bq A.cq D.vI D.vB D.lens D.gI part D.all D.gB room
  hl : D.lens.drop D.gI = ls
  ha : D.all.drop D.gB = data
  ll : D.lens.length ≤ LI
  la : D.all.length ≤ LB
  she : Sh W A.bx D.V (okF A D.vI D.vB D.V n0) fr room begun left gone sh
  wi : Win W A.bw l g s
  c4 : Blk W A.b4 24 #[.int .u64 0]
  c5 : Blk W A.b5 4 #[.bool false]
  c9 : Blk W A.b9 37 #[.pointer (some ⟨A.bx, 0, none⟩)]
  base : n0 ≤ A.b4 ∧ n0 ≤ A.b5 ∧ n0 ≤ A.b9 ∧ n0 ≤ A.bx ∧ n0 ≤ A.bq ∧ n0 ≤ A.cq ∧ n0 ≤ A.bw
  bI : ∀ k, some k = D.vI.ownBlock → n0 ≤ k
  bB : ∀ k, some k = D.vB.ownBlock → n0 ≤ k
  bV : ∀ k, some k = D.V.ownBlock → n0 ≤ k
  bel : Below n0 w0 W
  n0s : n0 ≤ w0.heap.size

/-- Blocks for deferred calls lie as they lay. -/
def Still (W W' : World) : Prop := W.heap.size ≤ W'.heap.size ∧ ∀ D : Nat, W.heap[D]? = some (Obj.deferred (some [])) → W'.heap[D]? = some (Obj.deferred (some []))
def Cells (W : World) (k : Nat) : Prop := k < W.heap.size → ∃ cs t f, W.heap[k]? = some (.cells cs t f)
theorem Still.refl (W : World) : Still W W := ⟨Nat.le_refl _, fun _ h => h⟩
theorem Still.trans {W W1 W2 : World} (h : Still W W1) (k : Still W1 W2) : Still W W2 := ⟨Nat.le_trans h.1 k.1, fun D hd => k.2 D (h.2 D hd)⟩
theorem Still.of_keep {S : Nat → Prop} {W W1 : World} (h : Keep S W W1) (hs : ∀ k, S k → Cells W k) : Still W W1 :=
  ⟨h.size, fun D hd => (h.block D (Array.getElem?_eq_some_iff.1 hd).1 (fun hS => by
    obtain ⟨cs, t, f, hc⟩ := hs D hS (Array.getElem?_eq_some_iff.1 hd).1
    rw [hd] at hc
    cases hc)).trans hd⟩
theorem Blk.cells_ {W : World} {b t : Nat} {cs : Array Value} (h : Blk W b t cs) : Cells W b := fun _ => ⟨_, _, _, h⟩
theorem Row.cells_ {W : World} {e size n : Nat} {v : Value} {xs : List Value} (h : Row W e size v n xs) : ∀ k, some k = v.ownBlock → Cells W k := by
  intro k hk _
  rcases h.2 with ⟨rfl, _⟩ | ⟨g, off, cap, cur, rfl, hg, _⟩
  · simp [Value.ownBlock] at hk
  · simp [Value.ownBlock] at hk
    subst hk
    exact ⟨_, _, _, hg⟩
theorem Oq.cells_ {W : World} {b c gI gB : Nat} {vI vB : Value} {lens all : List Int} {part room : Int} (h : Oq W b c vI vB lens gI part all gB room) : ∀ k, OqS b c vI vB k → Cells W k := by
  rintro k (rfl | rfl | h1 | h1)
  · exact h.ln.blk.cells_
  · exact h.bq.blk.cells_
  · exact h.ln.row.cells_ k h1
  · exact h.bq.row.cells_ k h1
/-- A block of another type is none of the queue's. -/
theorem Oq.ne_blk {W : World} {b c gI gB : Nat} {vI vB : Value} {lens all : List Int} {part room : Int} (h : Oq W b c vI vB lens gI part all gB room) {k t : Nat} {cs : Array Value} (hk : Blk W k t cs)
    (h1 : t ≠ 68) (h2 : t ≠ 93) (h3 : 3 ≠ t) (h4 : 5 ≠ t) : ¬ OqS b c vI vB k := by
  rintro (rfl | rfl | e | e)
  · exact Blk.ne hk h.ln.blk h1 rfl
  · exact Blk.ne hk h.bq.blk h2 rfl
  · exact h.ln.row.ne_blk hk h3 e
  · exact h.bq.row.ne_blk hk h4 e
theorem Oq.ne_row {W : World} {b c gI gB : Nat} {vI vB : Value} {lens all : List Int} {part room : Int} (h : Oq W b c vI vB lens gI part all gB room) {e size n : Nat} {v : Value} {xs : List Value} (hr : Row W e size v n xs)
    (h1 : e ≠ 68) (h2 : e ≠ 93) (h3 : e ≠ 3) (h4 : e ≠ 5) : ∀ k, some k = v.ownBlock → ¬ OqS b c vI vB k := by
  rintro k hk (rfl | rfl | e | e)
  · exact hr.ne_blk h.ln.blk h1 hk
  · exact hr.ne_blk h.bq.blk h2 hk
  · exact hr.ne_row h.ln.row h3 k hk e
  · exact hr.ne_row h.bq.row h4 k hk e

section
variable {A : Adr} {D : Dat} {n0 : Nat} {w0 W W' : World} {room : Int} {LI LB : Nat} {ls data : List Int} {part : Int} {fr : List (List Int)} {begun left gone : Int} {sh : Bool} {l g : Int} {s : Bool}
/-- What is new turns nothing. -/
theorem PI.new_ (h : PI A D n0 w0 room LI LB ls data part fr begun left gone sh l g s W) (hk : Keep (fun k => W.heap.size ≤ k) W W') : PI A D n0 w0 room LI LB ls data part fr begun left gone sh l g s W' ∧ Still W W' := by
  have ob := fun {k t : Nat} {cs : Array Value} (hb : Blk W k t cs) => (show ¬ W.heap.size ≤ k from by have := hb.lt; omega)
  have or := fun {e size n : Nat} {v : Value} {xs : List Value} (hr : Row W e size v n xs) => (show ∀ k, some k = v.ownBlock → ¬ W.heap.size ≤ k from fun k hk => by have := hr.lt k hk; omega)
  have hsz : n0 ≤ W.heap.size := Nat.le_trans h.n0s h.bel.size
  obtain ⟨vs, hV, _⟩ := h.she.vs
  refine ⟨⟨h.oq.keep hk (ob h.oq.ln.blk) (ob h.oq.bq.blk) (or h.oq.ln.row) (or h.oq.bq.row), h.hl, h.ha, h.ll, h.la, h.she.keep hk (ob h.she.blk) (or hV) (fun k _ hlt h => by omega),
    Blk.keep h.wi hk (ob h.wi), h.c4.keep hk (ob h.c4), h.c5.keep hk (ob h.c5), h.c9.keep hk (ob h.c9), h.base, h.bI, h.bB, h.bV, h.bel.trans (hk.below hsz (fun k h2 => Nat.le_trans hsz h2)), h.n0s⟩, Still.of_keep hk (fun k h1 h2 => by omega)⟩
/-- The queue turns. -/
theorem PI.que_ (h : PI A D n0 w0 room LI LB ls data part fr begun left gone sh l g s W) {ls' data' : List Int} {part' : Int} {LI' LB' : Nat}
    (ho : OqTo W A.bq A.cq D.vI D.vB ls' part' data' room LI' LB' W') : (∃ D', PI A D' n0 w0 room LI' LB' ls' data' part' fr begun left gone sh l g s W') ∧ Still W W' := by
  obtain ⟨vI', vB', lens', gI', all', gB', h1, h2, h3, h4, h5, hk, h6, h7⟩ := ho
  obtain ⟨vs, hV, _⟩ := h.she.vs
  have hsz : n0 ≤ W.heap.size := Nat.le_trans h.n0s h.bel.size
  have b1 := h.oq.ne_blk h.she.blk (by decide) (by decide) (by decide) (by decide)
  have b2 := h.oq.ne_blk h.wi (by decide) (by decide) (by decide) (by decide)
  have b3 := h.oq.ne_blk h.c4 (by decide) (by decide) (by decide) (by decide)
  have b4 := h.oq.ne_blk h.c5 (by decide) (by decide) (by decide) (by decide)
  have b5 := h.oq.ne_blk h.c9 (by decide) (by decide) (by decide) (by decide)
  have b6 := h.oq.ne_row hV (by decide) (by decide) (by decide) (by decide)
  have hbI : ∀ k, some k = vI'.ownBlock → n0 ≤ k := fun k hk => (h6 k hk).elim (h.bI k) (fun h => by omega)
  have hbB : ∀ k, some k = vB'.ownBlock → n0 ≤ k := fun k hk => (h7 k hk).elim (h.bB k) (fun h => by omega)
  have hnew : ∀ k, OqS A.bq A.cq vI' vB' k → OqS A.bq A.cq D.vI D.vB k ∨ W.heap.size ≤ k := by
    rintro k (rfl | rfl | e | e)
    · exact .inl (.inl rfl)
    · exact .inl (.inr (.inl rfl))
    · exact (h6 k e).elim (fun e => .inl (.inr (.inr (.inl e)))) .inr
    · exact (h7 k e).elim (fun e => .inl (.inr (.inr (.inr e)))) .inr
  have hoq0 : ∀ k, OqS A.bq A.cq D.vI D.vB k → n0 ≤ k := by
    rintro k (rfl | rfl | e | e)
    · exact h.base.2.2.2.2.1
    · exact h.base.2.2.2.2.2.1
    · exact h.bI k e
    · exact h.bB k e
  have hs1 := h.she.mono (ok' := fun k => okF A D.vI D.vB D.V n0 k ∧ okF A vI' vB' D.V n0 k) (fun k hok hlt => ⟨hok, hok.1, hok.2.1, hok.2.2.1, fun e => (hnew k e).elim hok.2.2.2.1 (fun h => by omega), hok.2.2.2.2⟩) (fun e => e.1.2.1 rfl) (fun k hk e => e.1.2.2.1 hk)
  have hs2 := (hs1.keep hk b1 b6 (fun k hok _ => hok.1.2.2.2.1)).mono (ok' := okF A vI' vB' D.V n0) (fun k hok _ => hok.2) (fun e => e.2.1 rfl) (fun k hk e => e.2.2.1 hk)
  exact ⟨⟨{ D with vI := vI', vB := vB', lens := lens', gI := gI', all := all', gB := gB' }, ⟨h1, h2, h3, h4, h5, hs2, Blk.keep h.wi hk b2, h.c4.keep hk b3, h.c5.keep hk b4, h.c9.keep hk b5, h.base, hbI, hbB, h.bV, h.bel.trans (hk.below hsz hoq0), h.n0s⟩⟩, Still.of_keep hk h.oq.cells_⟩
/-- What is written down turns. -/
theorem PI.she'_ (h : PI A D n0 w0 room LI LB ls data part fr begun left gone sh l g s W) {V' : Value} {fr' : List (List Int)} {begun' left' gone' : Int} {sh' : Bool}
    (hs : Sh W' A.bx V' (fun k => okF A D.vI D.vB D.V n0 k ∧ k < W'.heap.size ∧ ¬ some k = V'.ownBlock) fr' room begun' left' gone' sh') (hV : ∀ k, some k = V'.ownBlock → some k = D.V.ownBlock ∨ W.heap.size ≤ k)
    (hk : Keep (fun k => k = A.bx ∨ some k = D.V.ownBlock) W W') : PI A { D with V := V' } n0 w0 room LI LB ls data part fr' begun' left' gone' sh' l g s W' ∧ Still W W' := by
  have hsz : n0 ≤ W.heap.size := Nat.le_trans h.n0s h.bel.size
  obtain ⟨vs, hVr, _⟩ := h.she.vs
  have ob : ∀ {k t : Nat} {cs : Array Value}, Blk W k t cs → t ≠ 40 → 28 ≠ t → ¬ (k = A.bx ∨ some k = D.V.ownBlock) := fun hb h1 h2 e => e.elim (fun e => Blk.ne hb h.she.blk h1 e) (fun e => hVr.ne_blk hb h2 e)
  have or : ∀ {e size n : Nat} {v : Value} {xs : List Value}, Row W e size v n xs → e ≠ 40 → e ≠ 28 → ∀ k, some k = v.ownBlock → ¬ (k = A.bx ∨ some k = D.V.ownBlock) := fun hr h1 h2 k hk e => e.elim (fun e => hr.ne_blk h.she.blk h1 (e ▸ hk)) (fun e => hr.ne_row hVr h2 k hk e)
  refine ⟨⟨h.oq.keep hk (ob h.oq.ln.blk (by decide) (by decide)) (ob h.oq.bq.blk (by decide) (by decide)) (or h.oq.ln.row (by decide) (by decide)) (or h.oq.bq.row (by decide) (by decide)), h.hl, h.ha, h.ll, h.la,
    hs.mono (fun k hok hlt => ⟨hok.1.1, hok.1.2.1, hok.2.2, hok.1.2.2.2⟩) (fun e => e.2.1 rfl) (fun k hk e => e.2.2.1 hk),
    Blk.keep h.wi hk (ob h.wi (by decide) (by decide)), h.c4.keep hk (ob h.c4 (by decide) (by decide)), h.c5.keep hk (ob h.c5 (by decide) (by decide)), h.c9.keep hk (ob h.c9 (by decide) (by decide)), h.base, h.bI, h.bB, fun k hk => (hV k hk).elim (h.bV k) (fun h => by omega),
    h.bel.trans (hk.below hsz (fun k h1 => h1.elim (fun e => e ▸ h.base.2.2.2.1) (h.bV k))), h.n0s⟩, Still.of_keep hk (fun k h1 => h1.elim (fun e => e ▸ h.she.blk.cells_) (hVr.cells_ k))⟩
theorem PI.she_ (h : PI A D n0 w0 room LI LB ls data part fr begun left gone sh l g s W) {V' : Value} {fr' : List (List Int)} {begun' left' gone' : Int} {sh' : Bool}
    (hs : Sh W' A.bx V' (fun k => okF A D.vI D.vB D.V n0 k ∧ k < W'.heap.size ∧ ¬ some k = V'.ownBlock) fr' room begun' left' gone' sh') (hV : ∀ k, some k = V'.ownBlock → some k = D.V.ownBlock ∨ W.heap.size ≤ k)
    (hk : Keep (fun k => k = A.bx ∨ some k = D.V.ownBlock) W W') : (∃ D', PI A D' n0 w0 room LI LB ls data part fr' begun' left' gone' sh' l g s W') ∧ Still W W' := ⟨⟨_, (h.she'_ hs hV hk).1⟩, (h.she'_ hs hV hk).2⟩
/-- The window turns. -/
theorem PI.win_ (h : PI A D n0 w0 room LI LB ls data part fr begun left gone sh l g s W) {l' g' : Int} {s' : Bool} (hw : Win W' A.bw l' g' s') (hk : Keep (fun k => k = A.bw) W W') :
    PI A D n0 w0 room LI LB ls data part fr begun left gone sh l' g' s' W' ∧ Still W W' := by
  have hsz : n0 ≤ W.heap.size := Nat.le_trans h.n0s h.bel.size
  obtain ⟨vs, hVr, _⟩ := h.she.vs
  have ob : ∀ {k t : Nat} {cs : Array Value}, Blk W k t cs → t ≠ 73 → ¬ k = A.bw := fun hb h1 e => Blk.ne hb h.wi h1 e
  have or : ∀ {e size n : Nat} {v : Value} {xs : List Value}, Row W e size v n xs → e ≠ 73 → ∀ k, some k = v.ownBlock → ¬ k = A.bw := fun hr h1 k hk e => hr.ne_blk h.wi h1 (e ▸ hk)
  exact ⟨⟨h.oq.keep hk (ob h.oq.ln.blk (by decide)) (ob h.oq.bq.blk (by decide)) (or h.oq.ln.row (by decide)) (or h.oq.bq.row (by decide)), h.hl, h.ha, h.ll, h.la,
    h.she.keep hk (ob h.she.blk (by decide)) (or hVr (by decide)) (fun k hok _ => hok.2.2.2.2.1), hw, h.c4.keep hk (ob h.c4 (by decide)), h.c5.keep hk (ob h.c5 (by decide)), h.c9.keep hk (ob h.c9 (by decide)), h.base, h.bI, h.bB, h.bV,
    h.bel.trans (hk.below hsz (fun k h1 => h1 ▸ h.base.2.2.2.2.2.2)), h.n0s⟩, Still.of_keep hk (fun k h1 => h1 ▸ Blk.cells_ h.wi)⟩
end

/-! ### The turns -/
structure St where
  (fr : List (List Int))
  (begun : Nat)
  (left gone : Int)
  (sh : Bool)
structure Turn where
  (kind n : Nat)
  (lengths : List Nat)
def framesOf (i : Nat) : List Nat → List (List Int)
  | [] => []
  | x :: xs => frameOf (x % 20) i :: framesOf (i + 1) xs
def St.take (st : St) (n : Nat) : St := { st with fr := st.fr.drop (takeTo n st.fr st.begun).2.1, begun := (takeTo n st.fr st.begun).2.2 }
def St.waits (st : St) : Nat := total st.fr - st.begun
/-- How many bytes may go, and wait. -/
def St.goes (st : St) : Nat := min st.waits st.left.toNat
def St.step (room : Int) (i : Nat) (y : Turn) (st : St) : St :=
  if y.kind % 8 ≤ 2 then
    if hasEmpty (framesOf i (y.lengths.take 4)) = true then st
    else if room < ((st.waits + total (framesOf i (y.lengths.take 4)) : Nat) : Int) then st
    else { st with fr := st.fr ++ framesOf i (y.lengths.take 4) }
  else if y.kind % 8 ≤ 4 then { st with left := granted st.sh st.left y.n }
  else if y.kind % 8 = 5 then { st.take st.goes with left := st.left - st.goes, gone := st.gone + st.goes }
  else if y.kind % 8 = 6 then if y.n < 3 then st else st.take (y.n - 3)
  else if y.n = 255 then { st with sh := true, left := 0 }
  else { st with fr := [], begun := 0 }
structure St.Ok (st : St) (room : Int) (t : Nat) : Prop where
  f : FrOk st.fr st.begun
  n : ∀ x ∈ st.fr, x.length ≤ 19
  w : (st.waits : Int) ≤ room
  l0 : 0 ≤ st.left
  l1 : st.left ≤ 1099511627776
  g0 : 0 ≤ st.gone
  g1 : st.gone ≤ 60 * t
end Go.Proofs.Ytcahmhenlpplcaa
