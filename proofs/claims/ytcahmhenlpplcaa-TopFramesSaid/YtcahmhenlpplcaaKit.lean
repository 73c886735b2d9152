/-
  Words on memory that my walks use: what is kept but for some blocks, blocks known whole, rows of a slice, append onto a row from any source.
-/
import Derived.WalkKit
import Derived.Deep.Draws
import Derived.Deep.QuietTactic
import Derived.BigQuiet
import Derived.Deep.RegionWith
import Derived.Deep.RegionHeld3
import Derived.Deep.AppendLies
import Derived.Lib.Hide
import Derived.Lib.MinMax
import Derived.WalkSpells
import Derived.Deep.DeepMust
namespace Go.Proofs.Ytcahmhenlpplcaa
open Go.RowKit

/-- A post that the walk's simp does not take apart. -/
def Ends (Q : Ending → World → Prop) (e : Ending) (w : World) : Prop := Q e w

/-! ### 1. What is kept -/
/-- All blocks of W but those in S lie in W' as they lay. -/
structure Keep (S : Nat → Prop) (W W' : World) : Prop where
  os : W'.os = W.os
  tape : W'.tape = W.tape
  output : W'.output = W.output
  size : W.heap.size ≤ W'.heap.size
  block : ∀ k, k < W.heap.size → ¬ S k → W'.heap[k]? = W.heap[k]?

section
variable {S S' : Nat → Prop} {W W1 W2 : World}
theorem Keep.refl (S : Nat → Prop) (W : World) : Keep S W W := ⟨rfl, rfl, rfl, Nat.le_refl _, fun _ _ _ => rfl⟩
theorem Keep.trans (h : Keep S W W1) (k : Keep S W1 W2) : Keep S W W2 :=
  ⟨k.os.trans h.os, k.tape.trans h.tape, k.output.trans h.output, Nat.le_trans h.size k.size,
    fun i hi hs => (k.block i (Nat.lt_of_lt_of_le hi h.size) hs).trans (h.block i hi hs)⟩
/-- The second step may turn blocks that the first one made, too. -/
theorem Keep.then {S2 : Nat → Prop} (h : Keep S W W1) (k : Keep S2 W1 W2) (hs : ∀ i, i < W.heap.size → S2 i → S i) : Keep S W W2 :=
  ⟨k.os.trans h.os, k.tape.trans h.tape, k.output.trans h.output, Nat.le_trans h.size k.size,
    fun i hi hn => (k.block i (Nat.lt_of_lt_of_le hi h.size) (fun h2 => hn (hs i hi h2))).trans (h.block i hi hn)⟩
theorem Keep.mono (h : Keep S W W1) (hs : ∀ i, i < W.heap.size → S i → S' i) : Keep S' W W1 :=
  ⟨h.os, h.tape, h.output, h.size, fun i hi hn => h.block i hi (fun h2 => hn (hs i hi h2))⟩
theorem Keep.alloc (h : Keep S W W1) (o : Obj) : Keep S W (W1.alloc o) :=
  h.then (S2 := fun _ => False) ⟨rfl, rfl, rfl, by simp, fun k hk _ => Below.heap_alloc _ _ _ hk⟩ (fun _ _ h => h.elim)
theorem Keep.setCell (h : Keep S W W1) {p : Addr} (hp : p.block < W.heap.size → S p.block) (u : Value) : Keep S W (W1.setCell p u) :=
  h.then (S2 := fun k => k = p.block) ⟨rfl, rfl, rfl, by simp, fun k _ hk => Below.heap_setCell _ _ _ _ hk⟩ (fun i hi e => by subst e; exact hp hi)
theorem Keep.drew (h : Keep S W W1) : Keep S W W1.drew := ⟨h.os, h.tape, h.output, h.size, h.block⟩
theorem Keep.drewN (h : Keep S W W1) (n : Nat) : Keep S W (W1.drewN n) := ⟨h.os, h.tape, h.output, h.size, h.block⟩
theorem Keep.of_below (h : Below W.heap.size W W1) : Keep S W W1 := ⟨h.os, h.tape, h.output, h.size, fun k hk _ => h.block k hk⟩
theorem Keep.below {B : Nat} (h : Keep S W W1) (hB : B ≤ W.heap.size) (hs : ∀ k, S k → B ≤ k) : Below B W W1 :=
  ⟨h.os, h.tape, h.output, h.size, fun k hk => h.block k (by omega) (fun h2 => by have := hs k h2; omega)⟩
theorem Keep.cell (h : Keep S W W1) {p : Addr} {v : Value} (hc : W.cell? p = some v) (hn : ¬ S p.block) : W1.cell? p = some v :=
  (World.cell?_of_block (h.block p.block (World.block_lt_of_cell? W p hc) hn)).trans hc
end

/-! ### 2. A block that is known whole -/
def Blk (W : World) (b t : Nat) (cs : Array Value) : Prop := W.heap[b]? = some (.cells cs t (0, 0))
section
variable {W W1 : World} {b t : Nat} {cs : Array Value}
theorem Blk.lt (h : Blk W b t cs) : b < W.heap.size := (Array.getElem?_eq_some_iff.1 h).1
theorem Blk.cell (h : Blk W b t cs) (i : Nat) : W.cell? ⟨b, i, none⟩ = cs[i]? := cell_of_row W b i cs t (0, 0) h
theorem Blk.frozen (h : Blk W b t cs) (i : Nat) : W.frozen? ⟨b, i, none⟩ = false := by
  unfold Blk at h
  simp [World.frozen?, h]
theorem Blk.new (W : World) (t : Nat) (cs : Array Value) : Blk (W.alloc (.cells cs t)) W.heap.size t cs := heap_alloc_new W _
theorem Blk.alloc (h : Blk W b t cs) (o : Obj) : Blk (W.alloc o) b t cs := (Below.heap_alloc W o b h.lt).trans h
theorem Blk.drew (h : Blk W b t cs) : Blk W.drew b t cs := h
theorem Blk.drewN (h : Blk W b t cs) (n : Nat) : Blk (W.drewN n) b t cs := h
theorem Blk.set_ (h : Blk W b t cs) (i : Nat) (u : Value) : Blk (W.setCell ⟨b, i, none⟩ u) b t (cs.setIfInBounds i u) := by
  unfold Blk at h ⊢
  simp [World.setCell, Array.getElem?_modify, h]
theorem Blk.far (h : Blk W b t cs) {p : Addr} (hp : b ≠ p.block) (u : Value) : Blk (W.setCell p u) b t cs := (Below.heap_setCell W p u b hp).trans h
theorem Blk.keep {S : Nat → Prop} (h : Blk W b t cs) (hk : Keep S W W1) (hn : ¬ S b) : Blk W1 b t cs := (hk.block b h.lt hn).trans h
theorem Blk.below {B : Nat} (h : Blk W b t cs) (hk : Below B W W1) (hn : b < B) : Blk W1 b t cs := (hk.block b hn).trans h
theorem Blk.ne {b' t' : Nat} {cs' : Array Value} (h : Blk W b t cs) (h' : Blk W b' t' cs') (hne : t ≠ t') : b ≠ b' := by
  rintro rfl
  unfold Blk at h h'
  rw [h] at h'
  injection h' with h'
  injection h' with _ ht
  exact hne ht
end

/-! ### 3. A row: what a slice that may be appended to leads to -/
def Row (W : World) (e size : Nat) (v : Value) (n : Nat) (xs : List Value) : Prop :=
  xs.length = n * size ∧
  ((v = .slice none 0 0 ∧ n = 0) ∨
   ∃ g off cap cur, v = .slice (some ⟨g, off, none⟩) n cap ∧ W.heap[g]? = some (.cells cur e (0, 0)) ∧ n ≤ cap ∧ cap ≤ maxLen ∧
     off + cap * size ≤ cur.size ∧ (cur.toList.drop off).take (n * size) = xs)

section
variable {W W1 : World} {e size : Nat} {v : Value} {n : Nat} {xs : List Value}
theorem Row.nil (W : World) (e size : Nat) : Row W e size (.slice none 0 0) 0 [] := ⟨by simp, .inl ⟨rfl, rfl⟩⟩
theorem Row.len (h : Row W e size v n xs) : xs.length = n * size := h.1
theorem Row.slice (h : Row W e size v n xs) : ∃ A c, v = .slice A n c := by
  rcases h.2 with ⟨rfl, rfl⟩ | ⟨g, off, cap, cur, rfl, _⟩ <;> exact ⟨_, _, rfl⟩
theorem Row.one (h : Row W e size v n xs) : v.oneCell' = true := by
  obtain ⟨A, c, rfl⟩ := h.slice
  rfl
theorem Row.lt (h : Row W e size v n xs) : ∀ k, some k = v.ownBlock → k < W.heap.size := by
  intro k hk
  rcases h.2 with ⟨rfl, _⟩ | ⟨g, off, cap, cur, rfl, hg, _⟩
  · simp [Value.ownBlock] at hk
  · simp [Value.ownBlock] at hk
    subst hk
    exact (Array.getElem?_eq_some_iff.1 hg).1
theorem Row.keep {S : Nat → Prop} (h : Row W e size v n xs) (hk : Keep S W W1) (hn : ∀ k, some k = v.ownBlock → ¬ S k) : Row W1 e size v n xs := by
  refine ⟨h.1, ?_⟩
  rcases h.2 with hv | ⟨g, off, cap, cur, rfl, hg, hr⟩
  · exact .inl hv
  · exact .inr ⟨g, off, cap, cur, rfl, (hk.block g (Array.getElem?_eq_some_iff.1 hg).1 (hn g (by simp [Value.ownBlock]))).trans hg, hr⟩
theorem Row.drewN (h : Row W e size v n xs) (m : Nat) : Row (W.drewN m) e size v n xs := h
theorem Row.drew (h : Row W e size v n xs) : Row W.drew e size v n xs := h
theorem Row.ne_blk {b t : Nat} {cs : Array Value} (h : Row W e size v n xs) (hb : Blk W b t cs) (hne : e ≠ t) : some b ≠ v.ownBlock := by
  rcases h.2 with ⟨rfl, _⟩ | ⟨g, off, cap, cur, rfl, hg, _⟩
  · simp [Value.ownBlock]
  · intro he
    simp [Value.ownBlock] at he
    subst he
    exact (Blk.ne (t := e) hg hb hne) rfl
theorem Row.ne_row {e' size' n' : Nat} {v' : Value} {xs' : List Value} (h : Row W e size v n xs) (h' : Row W e' size' v' n' xs') (hne : e ≠ e') : ∀ k, some k = v.ownBlock → ¬ some k = v'.ownBlock := by
  intro k hk hk'
  rcases h'.2 with ⟨rfl, _⟩ | ⟨g, off, cap, cur, rfl, hg, _⟩
  · simp [Value.ownBlock] at hk'
  · simp [Value.ownBlock] at hk'
    subst hk'
    exact h.ne_blk (t := e') (b := k) hg hne hk
/-- The cells of a row. -/
theorem Row.cells (h : Row W e size v n xs) (hp : 0 < n) : ∃ g off c, v = .slice (some ⟨g, off, none⟩) n c ∧ n ≤ c ∧ g < W.heap.size ∧ (∀ j, W.frozen? ⟨g, j, none⟩ = false) ∧ ∀ j u, xs[j]? = some u → W.cell? ⟨g, off + j, none⟩ = some u := by
  rcases h.2 with ⟨_, h0⟩ | ⟨g, off, cap, cur, rfl, hg, hnc, _, _, ht⟩
  · omega
  · refine ⟨g, off, cap, rfl, hnc, (Array.getElem?_eq_some_iff.1 hg).1, fun j => by simp [World.frozen?, hg], fun j u hu => ?_⟩
    rw [cell_of_row W g (off + j) cur e (0, 0) hg]
    rw [← ht, List.getElem?_take] at hu
    split at hu
    · simpa [List.getElem?_drop] using hu
    · cases hu
/-- An element is written. -/
theorem Row.set_ {g off c : Nat} (h : Row W e 1 (.slice (some ⟨g, off, none⟩) n c) n xs) {j : Nat} (_ : j < n) (u : Value) : Row (W.setCell ⟨g, off + j, none⟩ u) e 1 (.slice (some ⟨g, off, none⟩) n c) n (xs.set j u) := by
  refine ⟨by rw [List.length_set]; exact h.1, ?_⟩
  rcases h.2 with ⟨he, _⟩ | ⟨g', off', cap, cur, he, hg, hnc, hm, hs, ht⟩
  · cases he
  · injection he with he1 he2 he3
    injection he1 with he1
    injection he1 with hg1 ho1
    subst hg1
    subst ho1
    subst he3
    refine .inr ⟨g, off, c, cur.setIfInBounds (off + j) u, rfl, ?_, hnc, hm, by simpa using hs, ?_⟩
    · simp [World.setCell, Array.getElem?_modify, hg]
    · rw [Array.toList_setIfInBounds, List.drop_set, if_neg (by omega), List.take_set, ht]
      congr 1
      omega
/-- A row's value, known at its elements. -/
theorem Row.at_ (h : Row W e 1 v n xs) {j : Nat} (hj : j < n) : ∃ g off c u, v = .slice (some ⟨g, off, none⟩) n c ∧ n ≤ c ∧ xs[j]? = some u ∧ W.cell? ⟨g, off + j, none⟩ = some u := by
  obtain ⟨g, off, c, rfl, hc, _, _, hcell⟩ := h.cells (by omega)
  have hl : j < xs.length := by have := h.1; omega
  exact ⟨g, off, c, xs[j], rfl, hc, List.getElem?_eq_getElem hl, hcell j _ (List.getElem?_eq_getElem hl)⟩
theorem Row.maxLen (h : Row W e size v n xs) : n ≤ 9223372036854775807 := by
  rcases h.2 with ⟨_, h0⟩ | ⟨g, off, cap, cur, rfl, hg, hnc, hm, _⟩
  · omega
  · simp only [Go.maxLen] at hm
    omega
/-- v[:k]. -/
theorem Row.lit (W : World) (e size n : Nat) (cs : List Value) (hl : cs.length = n * size) (hm : n ≤ Go.maxLen) :
    Row (W.alloc (.cells cs.toArray e)) e size (.slice (some ⟨W.heap.size, 0, none⟩) n n) n cs :=
  ⟨hl, .inr ⟨W.heap.size, 0, n, cs.toArray, rfl, heap_alloc_new W _, Nat.le_refl _, hm, by simp [hl], by simp [← hl]⟩⟩
end

section
variable {P : Program} {W : World} {e size bytes : Nat} {v : Value} {n : Nat} {xs : List Value}
/-- The old blocks are kept where one row is written. -/
theorem Keep.setRow (W : World) (g : Nat) (cs : Array Value) : Keep (fun k => k = g) W (W.setRow g cs) :=
  ⟨rfl, rfl, rfl, by simp [World.setRow], fun k _ hk => by
    simp only [World.setRow, Array.getElem?_modify]
    rw [if_neg (fun h => hk h.symm)]⟩
theorem heap_setRow (W : World) (g : Nat) (cur cs : Array Value) (t : Nat) (h : W.heap[g]? = some (.cells cur t (0, 0))) : (W.setRow g cs).heap[g]? = some (.cells cs t (0, 0)) := by
  simp [World.setRow, Array.getElem?_modify, h]

theorem run_append_row (t ty : Nat) (i : TypeInfo) (z : Value) (ht : P.underlying t = some (.slice e)) (hi : P.info? e = some i) (hz : i.zero = some z)
    (hsize : i.size = size) (hby : i.bytes = bytes) (hzs : z.cells.size = size)
    (h : Row W e size v n xs) (A : Option Addr) (m c : Nat) (news : List Value) (hl : news.length = m * size)
    (hnews : 0 < m → ∃ ad, A = some ad ∧ ∀ j u, news[j]? = some u → W.cell? (ad.add j) = some u) (h1 : ∀ u ∈ news, u.oneCell' = true)
    (h63 : n + m ≤ maxLen) (hbytes : (n + m) * bytes ≤ 140737488355328) :
    ∃ v' w', (Builtin.append_ #[t, t] ty #[v, .slice A m c]).run P W = .ok v' w' ∧ Row w' e size v' (n + m) (xs ++ news) ∧
      Keep (fun k => some k = v.ownBlock) W w' ∧ (v'.ownBlock = v.ownBlock ∨ v'.ownBlock = some W.heap.size) := by
  subst hsize
  subst hby
  have hsmall : n + m ≤ 9223372036854775807 := by simp only [maxLen] at h63; omega
  have hlen : (xs ++ news).length = (n + m) * i.size := by rw [List.length_append, h.1, hl, Nat.add_mul]
  rcases Nat.eq_zero_or_pos m with h0 | hm
  · subst h0
    have hn : news = [] := List.eq_nil_of_length_eq_zero (by simpa using hl)
    subst hn
    refine ⟨v, W, ?_, by simpa using h, Keep.refl _ _, .inl rfl⟩
    rcases h.2 with ⟨rfl, rfl⟩ | ⟨g, off, cap, cur, rfl, hg, hnc, _⟩
    · cases A <;> simp [Builtin.append_, run_underlying ht, sizeOf, typeInfo, hi, Builtin.lenOf, Builtin.firstCells, loadCells, loadCellsFrom]
    · cases A <;> simp [Builtin.append_, run_underlying ht, sizeOf, typeInfo, hi, Builtin.lenOf, Builtin.firstCells, hnc, storeCells, loadCells, loadCellsFrom]
  · obtain ⟨ad, rfl, hcell⟩ := hnews hm
    have grown : ∀ (old : Nat), old < n + m → ∀ (S : Nat → Prop),
        Row (W.drew.alloc (.cells (xs.toArray ++ news.toArray ++ Builtin.zeroCells z.cells (grownCap W (n + m) old e - (n + m))) e)) e i.size
          (.slice (some ⟨W.heap.size, 0, none⟩) (n + m) (grownCap W (n + m) old e)) (n + m) (xs ++ news) ∧
        Keep S W (W.drew.alloc (.cells (xs.toArray ++ news.toArray ++ Builtin.zeroCells z.cells (grownCap W (n + m) old e - (n + m))) e)) := by
      intro old ho S
      have hge := grownCap_ge W (n + m) old e
      have hcm : grownCap W (n + m) old e ≤ maxLen := grownCap_le_maxLen W (n + m) old e h63
      refine ⟨⟨hlen, .inr ⟨W.heap.size, 0, _, _, rfl, heap_alloc_new W.drew _, hge, hcm, ?_, ?_⟩⟩, ((Keep.refl S W).drew).alloc _⟩
      · simp only [Array.size_append, List.size_toArray, size_zeroCells, hzs, h.1, hl, ← Nat.add_mul, Nat.zero_add]
        apply Nat.le_of_eq
        congr 1
        omega
      · simp only [Array.toList_append, List.append_assoc, List.drop_zero]
        rw [← List.append_assoc, ← hlen]
        exact List.take_left
    rcases h.2 with ⟨rfl, rfl⟩ | ⟨g, off, cap, cur, rfl, hg, hnc, hcm, hcs, htake⟩
    · have hx : xs = [] := List.eq_nil_of_length_eq_zero (by simpa using h.1)
      subst hx
      have hr := run_append_nil (P := P) W t ty e i z ht hi hz ad m c news hl hcell hm (by omega) (by have hb := hbytes; simp only [Nat.zero_add] at hb; omega)
      have hgr := grown 0 (by omega) (fun k => some k = (Value.slice none 0 0).ownBlock)
      refine ⟨_, _, hr, ?_, ?_, .inr (by simp [Value.ownBlock])⟩
      · simpa using hgr.1
      · simpa using hgr.2
    · by_cases hroom : n + m ≤ cap
      · have hf := run_firstCells_some (P := P) W i.size m ad m c news hl hcell
        have hmul : (n + m) * i.size ≤ cap * i.size := Nat.mul_le_mul_right _ hroom
        have hadd : (n + m) * i.size = n * i.size + m * i.size := Nat.add_mul _ _ _
        have hst := run_storeCells_at P g (off + n * i.size) e news 0 cur W hg (by omega) h1
        simp only [Nat.add_zero] at hst
        have hrun : (Builtin.append_ #[t, t] ty #[.slice (some ⟨g, off, none⟩) n cap, .slice (some ad) m c]).run P W =
            .ok (.slice (some ⟨g, off, none⟩) (n + m) cap) (W.setRow g (cur.toList.take (off + n * i.size) ++ news ++ cur.toList.drop (off + n * i.size + news.length)).toArray) := by
          simp [Builtin.append_, run_underlying ht, sizeOf, typeInfo, hi, Builtin.lenOf, hroom, hf, Addr.add_lit, hst]
        have hx : cur.toList.take (off + n * i.size) = cur.toList.take off ++ xs := by
          rw [← htake, List.take_add]
        have hol : (cur.toList.take off).length = off := by simp; omega
        refine ⟨_, _, hrun, ?_, ?_, .inl (by simp [Value.ownBlock])⟩
        · refine ⟨hlen, .inr ⟨g, off, cap, _, rfl, heap_setRow W g cur _ e hg, hroom, hcm, ?_, ?_⟩⟩
          · simp only [List.size_toArray, List.length_append, List.length_take, List.length_drop, Array.length_toList]
            omega
          · show (List.drop off (cur.toList.take (off + n * i.size) ++ news ++ cur.toList.drop (off + n * i.size + news.length))).take _ = _
            rw [hx, List.append_assoc, List.append_assoc, List.drop_append_of_le_length (by omega), List.drop_of_length_le (by omega), List.nil_append, ← List.append_assoc, ← hlen]
            exact List.take_left
        · exact (Keep.setRow W g _).mono (fun k _ hk => by simp [Value.ownBlock, hk])
      · have hr := run_append_grow (P := P) W t ty e i z ht hi hz ⟨g, off, none⟩ n cap xs h.1
          (fun j u hu => by
            rw [Addr.add_lit, cell_of_row W g (off + j) cur e (0, 0) hg]
            rw [← htake, List.getElem?_take] at hu
            split at hu
            · simpa [List.getElem?_drop] using hu
            · cases hu) ad m c news hl hcell (by omega) (by omega) (growslice_fits (by omega) hbytes)
        have hgr := grown cap (by omega) (fun k => some k = (Value.slice (some ⟨g, off, none⟩) n cap).ownBlock)
        exact ⟨_, _, hr, hgr.1, hgr.2, .inr (by simp [Value.ownBlock])⟩
end

/-! ### 3b. append, as the walk meets it; slices that are only read -/
theorem below_drewN {B : Nat} {a w : World} (h : Below B a w) (n : Nat) : Below B a (w.drewN n) := ⟨h.os, h.tape, h.output, h.size, h.block⟩
theorem ints_take (k : IntKind) (xs : List Int) (n : Nat) : (xs.map (Value.int k)).take n = (xs.take n).map (Value.int k) := by simp
def ints (k : IntKind) (xs : List Int) : List Value := xs.map (Value.int k)
theorem ints_len (k : IntKind) (xs : List Int) : (ints k xs).length = xs.length := by simp [ints]
theorem ints_get (k : IntKind) (xs : List Int) (j : Nat) : (ints k xs)[j]? = xs[j]?.map (Value.int k) := by simp [ints]
theorem ints_append (k : IntKind) (xs ys : List Int) : ints k (xs ++ ys) = ints k xs ++ ints k ys := by simp [ints]
theorem ints_one (k : IntKind) (xs : List Int) : ∀ u ∈ ints k xs, u.oneCell' = true := by
  intro u hu
  simp only [ints, List.mem_map] at hu
  obtain ⟨x, _, rfl⟩ := hu
  rfl

/-- The type t is a slice of e's, each of so many cells and bytes. -/
def SlTy (P : Program) (t e size bytes : Nat) : Prop :=
  P.underlying t = some (.slice e) ∧ ∃ i z, P.info? e = some i ∧ i.zero = some z ∧ i.size = size ∧ i.bytes = bytes ∧ z.cells.size = size
theorem SlTy.mk_ {P : Program} {t e size bytes : Nat} {z : Value} (ht : P.underlying t = some (.slice e)) (hi : (P.info? e).map (fun i => (i.zero, i.size, i.bytes)) = some (some z, size, bytes)) (hz : z.cells.size = size) : SlTy P t e size bytes := by
  obtain ⟨i, hi, h⟩ := Option.map_eq_some_iff.1 hi
  simp only [Prod.mk.injEq] at h
  exact ⟨ht, i, z, hi, h.1, h.2.1, h.2.2, hz⟩

/-- What an append takes its new elements from. -/
def Src (W : World) (size : Nat) (A : Option Addr) (m : Nat) (news : List Value) : Prop :=
  news.length = m * size ∧ (0 < m → ∃ ad, A = some ad ∧ ∀ j u, news[j]? = some u → W.cell? (ad.add j) = some u) ∧ ∀ u ∈ news, u.oneCell' = true
theorem heap_alloc_at (W : World) (o : Obj) (n : Nat) (h : n = W.heap.size) : (W.alloc o).heap[n]? = some o := by subst h; exact heap_alloc_new W o
/-- A new block of the elements themselves. -/
theorem Src.lit {W : World} {B t size m : Nat} {cs : List Value} {fr : Nat × Nat} (hb : W.heap[B]? = some (.cells cs.toArray t fr)) (hl : cs.length = m * size) (h1 : ∀ u ∈ cs, u.oneCell' = true) : Src W size (some ⟨B, 0, none⟩) m cs :=
  ⟨hl, fun _ => ⟨_, rfl, World.news_of_block hb⟩, h1⟩

section
variable {P : Program} {W : World} {e size bytes : Nat} {v : Value} {n : Nat} {xs : List Value} {o : Oper} {a : Act} {Q : Exit → Act → World → Prop}
theorem wp_append_row {K : Act → World → Prop} (s x : Operand) (t : TypeId)
    (ho : o.op = .call { callee := .builtin .append, args := #[s, x], argTypes := #[t, t] }) (hty : SlTy P t e size bytes)
    (hs : a.eval s = v) (hrow : Row W e size v n xs) (A : Option Addr) (m c : Nat) (news : List Value) (hx : a.eval x = .slice A m c) (hsrc : Src W size A m news)
    (h63 : n + m ≤ maxLen) (hbytes : (n + m) * bytes ≤ 140737488355328)
    (h : ∀ v' w', Row w' e size v' (n + m) (xs ++ news) → Keep (fun k => some k = v.ownBlock) W w' → (v'.ownBlock = v.ownBlock ∨ v'.ownBlock = some W.heap.size) → K (a.put o.dst v') w') : o.wp P a W K Q := by
  obtain ⟨ht, i, z, hi, hz, hsz, hby, hzs⟩ := hty
  obtain ⟨v', w', hr, h2, h3, h4⟩ := run_append_row (P := P) t o.type i z ht hi hz hsz hby hzs hrow A m c news hsrc.1 hsrc.2.1 hsrc.2.2 h63 hbytes
  unfold Oper.wp execOp
  simp only [ho, resolve, invoke, builtin, Sem.run_bind, Sem.run_pure, Result.andThen_ok, List.map_toArray, List.map_cons, List.map_nil, hs, hx, hr]
  exact h v' w' h2 h3 h4
theorem wpList_append_row {ops : Array Oper} {rest : List Oper} (hgd : o.guard = none) (s x : Operand) (t : TypeId)
    (ho : o.op = .call { callee := .builtin .append, args := #[s, x], argTypes := #[t, t] }) (hty : SlTy P t e size bytes)
    (hs : a.eval s = v) (hrow : Row W e size v n xs) (A : Option Addr) (m c : Nat) (news : List Value) (hx : a.eval x = .slice A m c) (hsrc : Src W size A m news)
    (h63 : n + m ≤ maxLen) (hbytes : (n + m) * bytes ≤ 140737488355328)
    (h : ∀ v' w', Row w' e size v' (n + m) (xs ++ news) → Keep (fun k => some k = v.ownBlock) W w' → (v'.ownBlock = v.ownBlock ∨ v'.ownBlock = some W.heap.size) → wpList P ops Q rest (a.put o.dst v') w') :
    wpList P ops Q (o :: rest) a W :=
  wpList_plain hgd fun _ hK => wp_append_row s x t ho hty hs hrow A m c news hx hsrc h63 hbytes fun v' w' h2 h3 h4 => hK _ _ (h v' w' h2 h3 h4)
/-- At a step of a region that draws its order. -/
theorem step_append_row {ops : Array Oper} {K : Act → World → Prop} {E : Prop} (hgd : o.guard = none) (s x : Operand) (t : TypeId)
    (ho : o.op = .call { callee := .builtin .append, args := #[s, x], argTypes := #[t, t] }) (hty : SlTy P t e size bytes)
    (hs : a.eval s = v) (hrow : Row W e size v n xs) (A : Option Addr) (m c : Nat) (news : List Value) (hx : a.eval x = .slice A m c) (hsrc : Src W size A m news)
    (h63 : n + m ≤ maxLen) (hbytes : (n + m) * bytes ≤ 140737488355328)
    (h : ∀ v' w', Row w' e size v' (n + m) (xs ++ news) → Keep (fun k => some k = v.ownBlock) W w' → (v'.ownBlock = v.ownBlock ∨ v'.ownBlock = some W.heap.size) → K (a.put o.dst v') w') :
    if Region.wanted o (yielded ops a.tmps) = true then Oper.wp P o a W K Q else E := by
  have hw : Region.wanted o (yielded ops a.tmps) = true := by simp [Region.wanted, hgd]
  rw [if_pos hw]
  exact wp_append_row s x t ho hty hs hrow A m c news hx hsrc h63 hbytes h
end

/-- A slice that is read: its elements' cells; the blocks that they lie in are all ok. -/
def Sees (W : World) (ok : Nat → Prop) (size : Nat) (v : Value) (n : Nat) (xs : List Value) : Prop :=
  ∃ A c, v = .slice A n c ∧ n ≤ c ∧ n ≤ 9223372036854775807 ∧ xs.length = n * size ∧
    (0 < n → ∃ g off, A = some ⟨g, off, none⟩ ∧ ok g ∧ g < W.heap.size ∧ ∀ j u, xs[j]? = some u → W.cell? ⟨g, off + j, none⟩ = some u)
section
variable {W W1 : World} {ok ok' S : Nat → Prop} {e size : Nat} {v : Value} {n : Nat} {xs : List Value}
theorem Sees.nil (W : World) (ok : Nat → Prop) (size : Nat) : Sees W ok size (.slice none 0 0) 0 [] := ⟨none, 0, rfl, by simp, by simp, by simp, fun h => by omega⟩
theorem Sees.keep (h : Sees W ok size v n xs) (hk : Keep S W W1) (hn : ∀ k, ok k → k < W.heap.size → ¬ S k) : Sees W1 ok size v n xs := by
  obtain ⟨A, c, hv, h1, h2, h3, h4⟩ := h
  refine ⟨A, c, hv, h1, h2, h3, fun hp => ?_⟩
  obtain ⟨g, off, hA, hg, hlt, hc⟩ := h4 hp
  exact ⟨g, off, hA, hg, Nat.lt_of_lt_of_le hlt hk.size, fun j u hu => hk.cell (hc j u hu) (hn g hg hlt)⟩
theorem Sees.mono (h : Sees W ok size v n xs) (hn : ∀ k, ok k → k < W.heap.size → ok' k) : Sees W ok' size v n xs := by
  obtain ⟨A, c, hv, h1, h2, h3, h4⟩ := h
  refine ⟨A, c, hv, h1, h2, h3, fun hp => ?_⟩
  obtain ⟨g, off, hA, hg, hlt, hc⟩ := h4 hp
  exact ⟨g, off, hA, hn g hg hlt, hlt, hc⟩
theorem Sees.drewN (h : Sees W ok size v n xs) (m : Nat) : Sees (W.drewN m) ok size v n xs := h
theorem Sees.drew (h : Sees W ok size v n xs) : Sees W.drew ok size v n xs := h
theorem Sees.one (h : Sees W ok size v n xs) : v.oneCell' = true := by
  obtain ⟨A, c, rfl, _⟩ := h
  rfl
theorem Row.sees (h : Row W e size v n xs) (hok : ∀ k, some k = v.ownBlock → ok k) : Sees W ok size v n xs := by
  have hm := h.maxLen
  rcases h.2 with ⟨rfl, rfl⟩ | ⟨g, off, cap, cur, rfl, hg, hnc, _⟩
  · exact ⟨none, 0, rfl, by simp, by simp, h.1, fun hp => by omega⟩
  · refine ⟨_, cap, rfl, hnc, hm, h.1, fun hp => ?_⟩
    obtain ⟨g', off', c', he, _, hlt, _, hc⟩ := h.cells hp
    injection he with he _ _
    injection he with he
    injection he with he1 he2
    subst he1
    subst he2
    exact ⟨g, off, rfl, hok g (by simp [Value.ownBlock]), hlt, hc⟩
theorem Sees.src (h : Sees W ok size v n xs) (h1 : ∀ u ∈ xs, u.oneCell' = true) : ∃ A c, v = .slice A n c ∧ Src W size A n xs := by
  obtain ⟨A, c, rfl, _, _, h3, h4⟩ := h
  refine ⟨A, c, rfl, h3, fun hp => ?_, h1⟩
  obtain ⟨g, off, rfl, _, _, hc⟩ := h4 hp
  exact ⟨_, rfl, fun j u hu => by rw [Addr.add_lit]; exact hc j u hu⟩
end

section
variable {W W1 : World} {ok : Nat → Prop} {A : Option Addr} {n c : Nat} {xs : List Value}
/-- xs[k:], xs[k:n:n], as the walk writes them. -/
theorem Sees.from_ (h : Sees W ok 1 (.slice A n c) n xs) (k c' : Nat) (P : Prop) [Decidable P] (hP : P → n = k) (hk : k ≤ n) (hc : n - k ≤ c') :
    Sees W ok 1 (.slice (if P then A else Option.map (fun x => x.add k) A) (n - k) c') (n - k) (xs.drop k) := by
  obtain ⟨A', c0, he, h1, h2, h3, h4⟩ := h
  injection he with he _ _
  subst he
  refine ⟨_, c', rfl, hc, by omega, by simp [h3], fun hp => ?_⟩
  rw [if_neg (fun h => by have := hP h; omega)]
  obtain ⟨g, off, rfl, hg, hlt, hcell⟩ := h4 (by omega)
  refine ⟨g, off + k, by simp [Addr.add_lit], hg, hlt, fun j u hu => ?_⟩
  rw [Nat.add_assoc]
  exact hcell (k + j) u (by rw [← hu, List.getElem?_drop])
/-- xs[:k]. -/
theorem Sees.upto (h : Sees W ok 1 (.slice A n c) n xs) (k c' : Nat) (hk : k ≤ n) (hc : k ≤ c') : Sees W ok 1 (.slice A k c') k (xs.take k) := by
  obtain ⟨A', c0, he, h1, h2, h3, h4⟩ := h
  injection he with he _ _
  subst he
  refine ⟨_, c', rfl, hc, by omega, by simp [h3]; omega, fun hp => ?_⟩
  obtain ⟨g, off, rfl, hg, hlt, hcell⟩ := h4 (by omega)
  refine ⟨g, off, rfl, hg, hlt, fun j u hu => ?_⟩
  rw [List.getElem?_take] at hu
  split at hu
  · exact hcell j u hu
  · cases hu
end

/-! ### 3c. Calls that only read, inside a region that draws its order -/
section
variable {P : Program} {f : FuncId} {args : Array Value} {w : World} {a n : Nat} {v : Value}
theorem quiet_call (h : Calls P f args (w.drewN n) (Ends fun e w' => e = .returned v ∧ ∃ m, w' = (w.drewN n).drewN m)) :
    Calls P f args (w.drewN n) fun e w'' => e = .returned v ∧ ∃ m, w'' = w.drewN m :=
  h.mono fun _ _ ⟨he, m, hm⟩ => ⟨he, n + m, by rw [hm, World.drewN_drewN]⟩
theorem quiet_call_same (h : Calls P f args (w.drewN n) (Ends fun e w' => e = .returned v ∧ w.drewN n = w')) :
    Calls P f args (w.drewN n) fun e w'' => e = .returned v ∧ ∃ m, w'' = w.drewN m :=
  h.mono fun _ _ ⟨he, hm⟩ => ⟨he, n, hm.symm⟩
theorem quiet_add (h : Calls P f args (w.drewN (a + n)) (Ends fun e w' => e = .returned v ∧ ∃ m, w' = (w.drewN (a + n)).drewN m)) :
    Calls P f args (w.drewN (a + n)) fun e w'' => e = .returned v ∧ ∃ m, w'' = w.drewN (a + m) :=
  h.mono fun _ _ ⟨he, m, hm⟩ => ⟨he, n + m, by rw [hm, World.drewN_drewN, Nat.add_assoc]⟩
theorem quiet_add_same (h : Calls P f args (w.drewN (a + n)) (Ends fun e w' => e = .returned v ∧ w.drewN (a + n) = w')) :
    Calls P f args (w.drewN (a + n)) fun e w'' => e = .returned v ∧ ∃ m, w'' = w.drewN (a + m) :=
  h.mono fun _ _ ⟨he, hm⟩ => ⟨he, n, hm.symm⟩
end
/-- v[k:n:n]. -/
def leftVal (v : Value) (n k : Nat) : Value :=
  match v with
  | .slice A _ _ => .slice (if n = k then A else Option.map (fun x => x.add k) A) (n - k) (n - k)
  | v => v
theorem Sees.left {W : World} {ok : Nat → Prop} {v : Value} {n : Nat} {xs : List Value} (h : Sees W ok 1 v n xs) {k : Nat} (hk : k ≤ n) : Sees W ok 1 (leftVal v n k) (n - k) (xs.drop k) := by
  obtain ⟨A, c, rfl, _⟩ := id h
  exact h.from_ k _ _ (fun h => h) hk (Nat.le_refl _)

/-! ### 4. A jump forward, to a label of the same scope -/
section
variable {P : Program} {a : Act} {w : World} {Q : Exit → Act → World → Prop}
/-- A scope left by a jump forward, at most once. -/
theorem wp_scope_fwd {c rest : Code} (l : Nat) (hf : findLabel c l = some rest) (first : c.wp P (Exit.jump l (fun a w => rest.wp P (Exit.noGoto Q) a w) Q) a w) : (Code.scope c).wp P Q a w :=
  wp_scope_jumps l (fun a w => rest.wp P (Exit.noGoto Q) a w) (fun _ _ => 0) hf first (fun a w h => wp_mono h (fun e a' w' hq => by
    cases e <;> first | exact hq | exact hq.elim))
theorem Exit.jump_goto {l : Nat} {J : Act → World → Prop} (h : J a w) : Exit.jump l J Q (.goto l) a w := ⟨rfl, h⟩
end
end Go.Proofs.Ytcahmhenlpplcaa
