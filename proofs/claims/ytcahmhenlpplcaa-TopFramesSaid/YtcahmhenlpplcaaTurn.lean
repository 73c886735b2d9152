/-
  Ahead of the turns: a queue and a window answer as what is written down beside them.
-/
import Derived.Test.YtcahmhenlpplcaaFrame
import Derived.Test.YtcahmhenlpplcaaStr
import Derived.Test.YtcahmhenlpplcaaNew
import Derived.StillTailTactics
namespace Go.Proofs.Ytcahmhenlpplcaa
open Go.RowKit
set_option maxRecDepth 100000
attribute [local go_sem] Oper.semAt_some

theorem cell_far {w : World} {p a : Addr} {u v : Value} (h : p.block ≠ a.block) (hc : w.cell? a = some u) : (w.setCell p v).cell? a = some u :=
  (World.cell?_setCell_other w p a v (fun e => h (by rw [e]))).trans hc

/-- Turns that are read. -/
def Reads (n0 : Nat) (W : World) (v : Value) (ys : List Turn) : Prop :=
  ∃ A c, v = .slice A ys.length c ∧ ys.length ≤ c ∧ (0 < ys.length → ∃ g off, A = some ⟨g, off, none⟩ ∧ g < n0 ∧ ∀ (i : Nat) (y : Turn), ys[i]? = some y →
    W.cell? ⟨g, off + i * 3, none⟩ = some (.int .u8 y.kind) ∧ W.cell? ⟨g, off + i * 3 + 1, none⟩ = some (.int .u8 y.n) ∧
    (∃ u, W.cell? ⟨g, off + i * 3 + 2, none⟩ = some u ∧ Sees W (fun k => k < n0) 1 u y.lengths.length (ints .u8 (y.lengths.map fun (x : Nat) => (x : Int)))) ∧ y.kind ≤ 255 ∧ y.n ≤ 255 ∧ ∀ x ∈ y.lengths, x ≤ 255)
theorem Reads.below {n0 : Nat} {W W' : World} {v : Value} {ys : List Turn} (h : Reads n0 W v ys) (hb : Below n0 W W') : Reads n0 W' v ys := by
  obtain ⟨A, c, hv, hc, hr⟩ := h
  refine ⟨A, c, hv, hc, fun hp => ?_⟩
  obtain ⟨g, off, hA, hg, hi⟩ := hr hp
  refine ⟨g, off, hA, hg, fun i y hy => ?_⟩
  obtain ⟨h1, h2, ⟨u, h3, h4⟩, h5⟩ := hi i y hy
  refine ⟨(hb.cell (p := ⟨g, off + i * 3, none⟩) hg).trans h1, (hb.cell (p := ⟨g, off + i * 3 + 1, none⟩) hg).trans h2, ⟨u, (hb.cell (p := ⟨g, off + i * 3 + 2, none⟩) hg).trans h3, ?_⟩, h5⟩
  obtain ⟨A', c', hv', k1, k2, k3, k4⟩ := h4
  refine ⟨A', c', hv', k1, k2, k3, fun hp => ?_⟩
  obtain ⟨g', off', hA', hg', hlt, hc'⟩ := k4 hp
  exact ⟨g', off', hA', hg', Nat.lt_of_lt_of_le hlt hb.size, fun j u hu => (hb.cell (p := ⟨g', off' + j, none⟩) hg').trans (hc' j u hu)⟩

def runTurns (room : Int) : Nat → List Turn → St → St
  | _, [], st => st
  | i, y :: ys, st => runTurns room (i + 1) ys (st.step room i y)
def St.start : St := { fr := [], begun := 0, left := 0, gone := 0, sh := false }

theorem eql_func_nil (B : Nat) (w : World) : (binOp .eql 60 (.func (.func 50) #[] #[.pointer (some ⟨B, 0, none⟩)]) .nilFunc).run Try.prog w = .ok (.bool false) w := by
  have h : ∀ d : Nat, (Op.equalIn (d + 1) 60 (.func (.func 50) #[] #[.pointer (some ⟨B, 0, none⟩)]) .nilFunc).run Try.prog w = .ok false w := fun d => by
    simp [Op.equalIn, run_underlying Try.underlying60]
  simp only [binOp]
  simp [Op.equal, Op.maxDepth, h 9999]
theorem Keep.of_grownBy {W W' : World} {row : Option Nat} (h : W.grownBy W' row) : Keep (fun k => some k = row) W W' := ⟨h.os, h.tape, h.output, h.size, fun k hk hn => h.block k hk hn⟩
theorem Marks.still {B : Nat} {W W1 : World} {ds : List Deferred} (h : Marks B W ds) (hk : Still W W1) : Marks B W1 ds := by
  obtain ⟨l, he, hn, hl⟩ := h
  exact ⟨l, he, hn, fun D hD => ⟨(hl D hD).1, hk.2 D (hl D hD).2⟩⟩
theorem St.step_grant {room : Int} {i : Nat} {y : Turn} {st : St} (h : y.kind % 8 = 3 ∨ y.kind % 8 = 4) : st.step room i y = { st with left := granted st.sh st.left y.n } := by
  unfold St.step
  rw [if_neg (by omega), if_pos (by omega)]
theorem PI.weak {A : Adr} {D : Dat} {n0 : Nat} {w0 W : World} {room : Int} {LI LB LI' LB' : Nat} {ls data : List Int} {part : Int} {fr : List (List Int)} {begun left gone : Int} {sh : Bool} {l g : Int} {s : Bool}
    (h : PI A D n0 w0 room LI LB ls data part fr begun left gone sh l g s W) (h1 : LI ≤ LI') (h2 : LB ≤ LB') : PI A D n0 w0 room LI' LB' ls data part fr begun left gone sh l g s W :=
  { h with ll := Nat.le_trans h.ll h1, la := Nat.le_trans h.la h2 }

theorem St.step_few {room : Int} {i : Nat} {y : Turn} {st : St} (h : y.kind % 8 = 6) (hn : y.n < 3) : st.step room i y = st := by
  unfold St.step
  rw [if_neg (by omega), if_neg (by omega), if_neg (by omega), if_pos h, if_pos hn]
theorem St.step_take {room : Int} {i : Nat} {y : Turn} {st : St} (h : y.kind % 8 = 6) (hn : ¬ y.n < 3) : st.step room i y = st.take (y.n - 3) := by
  unfold St.step
  rw [if_neg (by omega), if_neg (by omega), if_neg (by omega), if_pos h, if_neg hn]
theorem St.step_goes {room : Int} {i : Nat} {y : Turn} {st : St} (h : y.kind % 8 = 5) : st.step room i y = { st.take st.goes with left := st.left - st.goes, gone := st.gone + st.goes } := by
  unfold St.step
  rw [if_neg (by omega), if_neg (by omega), if_pos h]
theorem St.step_none {room : Int} {i : Nat} {y : Turn} {st : St} (h : y.kind % 8 ≤ 2) (he : hasEmpty (framesOf i (y.lengths.take 4)) = true) : st.step room i y = st := by
  unfold St.step
  rw [if_pos h, if_pos he]
theorem St.step_full {room : Int} {i : Nat} {y : Turn} {st : St} (h : y.kind % 8 ≤ 2) (he : ¬ hasEmpty (framesOf i (y.lengths.take 4)) = true) (hr : room < ((st.waits + total (framesOf i (y.lengths.take 4)) : Nat) : Int)) : st.step room i y = st := by
  unfold St.step
  rw [if_pos h, if_neg he, if_pos hr]
theorem St.step_push {room : Int} {i : Nat} {y : Turn} {st : St} (h : y.kind % 8 ≤ 2) (he : ¬ hasEmpty (framesOf i (y.lengths.take 4)) = true) (hr : ¬ room < ((st.waits + total (framesOf i (y.lengths.take 4)) : Nat) : Int)) : st.step room i y = { st with fr := st.fr ++ framesOf i (y.lengths.take 4) } := by
  unfold St.step
  rw [if_pos h, if_neg he, if_neg hr]
theorem St.step_shut {room : Int} {i : Nat} {y : Turn} {st : St} (h : y.kind % 8 = 7) (hn : y.n = 255) : st.step room i y = { st with sh := true, left := 0 } := by
  unfold St.step
  rw [if_neg (by omega), if_neg (by omega), if_neg (by omega), if_neg (by omega), if_pos hn]
theorem St.step_clear {room : Int} {i : Nat} {y : Turn} {st : St} (h : y.kind % 8 = 7) (hn : ¬ y.n = 255) : st.step room i y = { st with fr := [], begun := 0 } := by
  unfold St.step
  rw [if_neg (by omega), if_neg (by omega), if_neg (by omega), if_neg (by omega), if_neg hn]

/-- A cell of what is written down is turned, but the frames'. -/
theorem PI.cell_ {A : Adr} {D : Dat} {n0 : Nat} {w0 W : World} {room : Int} {LI LB : Nat} {ls data : List Int} {part : Int} {fr : List (List Int)} {begun left gone : Int} {sh : Bool} {l g : Int} {s : Bool}
    (h : PI A D n0 w0 room LI LB ls data part fr begun left gone sh l g s W) {i : Nat} {u : Value} {begun' left' gone' : Int} {sh' : Bool}
    (he : (#[.int .i64 room, .int .i64 begun, D.V, .int .u64 left, .int .u64 gone, .bool sh] : Array Value).setIfInBounds i u = #[.int .i64 room, .int .i64 begun', D.V, .int .u64 left', .int .u64 gone', .bool sh']) :
    PI A D n0 w0 room LI LB ls data part fr begun' left' gone' sh' l g s (W.setCell ⟨A.bx, i, none⟩ u) ∧ Still W (W.setCell ⟨A.bx, i, none⟩ u) := by
  have hk : Keep (fun k => k = A.bx) W (W.setCell ⟨A.bx, i, none⟩ u) := (Keep.refl (fun k => k = A.bx) W).setCell (fun _ => rfl) _
  have hsz : n0 ≤ W.heap.size := Nat.le_trans h.n0s h.bel.size
  have ob : ∀ {k t : Nat} {cs : Array Value}, Blk W k t cs → t ≠ 40 → ¬ k = A.bx := fun hb h1 e => Blk.ne hb h.she.blk h1 e
  have or : ∀ {e size n : Nat} {v : Value} {xs : List Value}, Row W e size v n xs → e ≠ 40 → ∀ k, some k = v.ownBlock → ¬ k = A.bx := fun hr h1 k hk e => hr.ne_blk h.she.blk h1 (e ▸ hk)
  exact ⟨⟨h.oq.keep hk (ob h.oq.ln.blk (by decide)) (ob h.oq.bq.blk (by decide)) (or h.oq.ln.row (by decide)) (or h.oq.bq.row (by decide)), h.hl, h.ha, h.ll, h.la, h.she.cell_ he,
    Blk.keep h.wi hk (ob h.wi (by decide)), h.c4.keep hk (ob h.c4 (by decide)), h.c5.keep hk (ob h.c5 (by decide)), h.c9.keep hk (ob h.c9 (by decide)), h.base, h.bI, h.bB, h.bV,
    h.bel.trans (hk.below hsz (fun k h1 => h1 ▸ h.base.2.2.2.1)), h.n0s⟩, Still.of_keep hk (fun k h1 => h1 ▸ h.she.blk.cells_)⟩

/-- All that is written down of frames goes. -/
theorem PI.clear_ {A : Adr} {D : Dat} {n0 : Nat} {w0 W : World} {room : Int} {LI LB : Nat} {ls data : List Int} {part : Int} {fr : List (List Int)} {begun left gone : Int} {sh : Bool} {l g : Int} {s : Bool}
    (h : PI A D n0 w0 room LI LB ls data part fr begun left gone sh l g s W) :
    (∃ D', PI A D' n0 w0 room LI LB ls data part [] 0 left gone sh l g s ((W.setCell ⟨A.bx, 2, none⟩ (.slice none 0 0)).setCell ⟨A.bx, 1, none⟩ (.int .i64 0))) ∧ Still W ((W.setCell ⟨A.bx, 2, none⟩ (.slice none 0 0)).setCell ⟨A.bx, 1, none⟩ (.int .i64 0)) := by
  refine h.she_ (V' := .slice none 0 0) ⟨(h.she.blk.set_ 2 (.slice none 0 0)).set_ 1 (.int .i64 0), ⟨[], Row.nil _ _ _, by simp⟩, fun e => e.1.2.1 rfl, by simp [Value.ownBlock]⟩ (by simp [Value.ownBlock]) ?_
  exact ((Keep.refl (fun k => k = A.bx ∨ some k = D.V.ownBlock) W).setCell (fun _ => .inl rfl) _).setCell (fun _ => .inl rfl) _

/-- Between two turns. -/
def PInv (A : Adr) (n0 : Nat) (w0 : World) (room : Int) (t : Nat) (st : St) (W : World) : Prop :=
  st.Ok room t ∧ ∃ D, PI A D n0 w0 room (4 * t) (80 * t) (lensOf st.fr) (st.fr.flatten.drop st.begun) st.begun st.fr st.begun st.left st.gone st.sh st.left st.gone st.sh W

theorem ends_marks {n n0 : Nat} {ds : List Deferred} {w0 W : World} {b4 b5 : Nat} {tmps : Array Value} {g : Int} {ok : Bool} (hm : Marks n0 W ds) (h4 : Blk W b4 24 #[.int .u64 g]) (h5 : Blk W b5 4 #[.bool ok]) (hb : Below n0 w0 W) (hn : n0 ≤ w0.heap.size)
    (t4 : tmps.getD 4 undef = .pointer (some ⟨b4, 0, none⟩)) (t5 : tmps.getD 5 undef = .pointer (some ⟨b5, 0, none⟩)) :
    bodyPostM Fence.wide n Try.prog Try.f5 (Ends fun e w' => e = .returned (.tuple #[.int .u64 g, .bool ok]) ∧ Below n0 w0 w') .ret { tmps := tmps, defers := ds } W := by
  obtain ⟨l, rfl, hnd, hl⟩ := hm
  refine leaves_marks n0 l W hnd hl (fun W' hk => ?_)
  have hs : ∀ {b t : Nat} {cs : Array Value}, Blk W b t cs → ¬ b ∈ l := fun hb hm => by
    have h1 := (hl _ hm).2
    unfold Blk at hb
    rw [h1] at hb
    cases hb
  have c4 := (h4.keep hk (hs h4)).cell 0
  have c5 := (h5.keep hk (hs h5)).cell 0
  refine ⟨.tuple #[.int .u64 g, .bool ok], ?_, rfl, hb.trans (hk.below (Nat.le_trans hn hb.size) (fun k hk => (hl k hk).1))⟩
  rw [Array.getD_eq_getD_getElem?] at t4 t5
  simp only [List.getElem?_toArray, List.getElem?_cons_zero] at c4 c5
  simp [results, Try.f5, go_sem, c4, c5, t4, t5]

theorem start_inv {w w1 : World} {bq cq : Nat} {room : Int} (hO : Oq w1 bq cq (.slice none 0 0) (.slice none 0 0) [] 0 0 [] 0 room) (hB : w.heap.size + 1 + 1 ≤ bq) (hC : w.heap.size + 1 + 1 ≤ cq)
    (hK : Below (w.heap.size + 1 + 1) ((w.alloc (.cells #[.int .u64 0] 24)).alloc (.cells #[.bool false] 4)) w1) :
    PI { b4 := w.heap.size, b5 := w.heap.size + 1, b9 := (w1.alloc (.cells #[.int .u64 0, .int .u64 0, .bool false, .bool true] 73)).heap.size + 1, bx := (w1.alloc (.cells #[.int .u64 0, .int .u64 0, .bool false, .bool true] 73)).heap.size, bq := bq, cq := cq, bw := w1.heap.size }
      ⟨.slice none 0 0, .slice none 0 0, .slice none 0 0, [], [], 0, 0⟩ w.heap.size w room (4 * 0) (80 * 0) (lensOf St.start.fr) (St.start.fr.flatten.drop St.start.begun) St.start.begun St.start.fr St.start.begun St.start.left St.start.gone St.start.sh St.start.left St.start.gone St.start.sh
      (((w1.alloc (.cells #[.int .u64 0, .int .u64 0, .bool false, .bool true] 73)).alloc (.cells #[.int .i64 room, .int .i64 0, .slice none 0 0, .int .u64 0, .int .u64 0, .bool false] 40)).alloc (.cells #[.pointer (some ⟨(w1.alloc (.cells #[.int .u64 0, .int .u64 0, .bool false, .bool true] 73)).heap.size, 0, none⟩)] 37)) := by
  have hsz1 := hK.size
  simp only [World.size_alloc] at hsz1
  have g4 : Blk w1 w.heap.size 24 #[.int .u64 0] := Blk.below ((Blk.new w 24 #[.int .u64 0]).alloc _) hK (by omega)
  have g5 : Blk w1 (w.heap.size + 1) 4 #[.bool false] := by
    have := Blk.below (Blk.new (w.alloc (.cells #[.int .u64 0] 24)) 4 #[.bool false]) hK (by simp)
    simpa using this
  have hb1 : Below w.heap.size w w1 := (((Below.refl _ w).alloc (Nat.le_refl _) _).alloc (by simp) _).trans (hK.mono (by omega))
  have hlt4 := g4.lt
  have hlt5 := g5.lt
  have hltq := hO.ln.blk.lt
  have hltc := hO.bq.blk.lt
  simp only [World.size_alloc]
  obtain ⟨W2, hW2⟩ : ∃ W2, W2 = w1.alloc (.cells #[.int .u64 0, .int .u64 0, .bool false, .bool true] 73) := ⟨_, rfl⟩
  have gw : Win W2 w1.heap.size 0 0 false := by
    rw [hW2]
    exact Blk.new _ _ _
  have hs2 : W2.heap.size = w1.heap.size + 1 := by rw [hW2]; simp
  have hk2 : Keep (fun k => w1.heap.size ≤ k) w1 W2 := by
    rw [hW2]
    exact (Keep.refl _ w1).alloc _
  rw [← hW2]
  obtain ⟨W3, hW3⟩ : ∃ W3, W3 = W2.alloc (.cells #[.int .i64 room, .int .i64 0, .slice none 0 0, .int .u64 0, .int .u64 0, .bool false] 40) := ⟨_, rfl⟩
  have gx : Blk W3 (w1.heap.size + 1) 40 #[.int .i64 room, .int .i64 0, .slice none 0 0, .int .u64 0, .int .u64 0, .bool false] := by
    rw [hW3, ← hs2]
    exact Blk.new _ _ _
  have hs3 : W3.heap.size = W2.heap.size + 1 := by rw [hW3]; simp
  have hk3 : Keep (fun k => w1.heap.size + 1 ≤ k) W2 W3 := by
    rw [hW3]
    exact (Keep.refl _ W2).alloc _
  rw [← hW3]
  obtain ⟨W4, hW4⟩ : ∃ W4, W4 = W3.alloc (.cells #[.pointer (some ⟨w1.heap.size + 1, 0, none⟩)] 37) := ⟨_, rfl⟩
  have g9 : Blk W4 (w1.heap.size + 1 + 1) 37 #[.pointer (some ⟨w1.heap.size + 1, 0, none⟩)] := by
    have : w1.heap.size + 1 + 1 = W3.heap.size := by omega
    rw [hW4, this]
    exact Blk.new _ _ _
  have hk4 : Keep (fun k => w1.heap.size + 2 ≤ k) W3 W4 := by
    rw [hW4]
    exact (Keep.refl _ W3).alloc _
  rw [← hW4]
  have hall : Keep (fun k => w1.heap.size ≤ k) w1 W4 := (hk2.trans (hk3.mono (fun k _ h => by omega))).trans (hk4.mono (fun k _ h => by omega))
  refine ⟨hO.keep hall (by show ¬ _ ≤ _; omega) (by show ¬ _ ≤ _; omega) (by simp [Value.ownBlock]) (by simp [Value.ownBlock]), rfl, rfl, Nat.zero_le _, Nat.zero_le _, ⟨gx.keep hk4 (by show ¬ _ ≤ _; omega), ⟨[], Row.nil _ _ _, by simp [St.start]⟩, fun e => e.2.1 rfl, by simp [Value.ownBlock]⟩,
    Blk.keep (Blk.keep gw hk3 (by show ¬ w1.heap.size + 1 ≤ w1.heap.size; omega)) hk4 (by show ¬ w1.heap.size + 2 ≤ w1.heap.size; omega), g4.keep hall (by show ¬ _ ≤ _; omega), g5.keep hall (by show ¬ _ ≤ _; omega), g9, ?_, by simp [Value.ownBlock], by simp [Value.ownBlock], by simp [Value.ownBlock], hb1.trans (hall.below (by omega) (fun k hk => by omega)), Nat.le_refl _⟩
  refine ⟨?_, ?_, ?_, ?_, ?_, ?_, ?_⟩ <;> dsimp only <;> omega

end Go.Proofs.Ytcahmhenlpplcaa
