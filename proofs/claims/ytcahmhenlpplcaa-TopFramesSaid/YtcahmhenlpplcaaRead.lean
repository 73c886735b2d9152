/-
  Turns that come in, and turns that are written out.
-/
import Derived.Test.YtcahmhenlpplcaaPush
import Derived.Test.YtcahmhenlpplcaaRows
import Derived.ProofKit
import Derived.OpenShut
import Derived.ShutString
import Derived.ChangeOld
import Derived.Below
import Derived.Deep.Slices
import Derived.Deep.Strs
namespace Go.Proofs.Ytcahmhenlpplcaa
open Go.ChangeShapes Go.WideShapes Go.ChangeAt Go.RowKit Go.Deep

set_option maxRecDepth 100000
theorem wf_u8 {z : Int} (h : (Lit.int .u8 z).wf = true) : 0 ≤ z ∧ z ≤ 255 := by
  simp [Lit.wf, IntKind.min, IntKind.max, IntKind.signed, IntKind.bits] at h
  omega
theorem list_of {α : Type} {P : Nat → α → Prop} : ∀ n, (∀ i, i < n → ∃ y, P i y) → ∃ ys : List α, ys.length = n ∧ ∀ i y, ys[i]? = some y → P i y
  | 0, _ => ⟨[], rfl, by simp⟩
  | n + 1, h => by
    obtain ⟨ys, hl, hy⟩ := list_of n (fun i hi => h i (by omega))
    obtain ⟨y, hyn⟩ := h n (by omega)
    refine ⟨ys ++ [y], by simp [hl], fun i z hz => ?_⟩
    by_cases hi : i < n
    · rw [List.getElem?_append_left (by omega)] at hz
      exact hy i z hz
    · have hlt := (List.getElem?_eq_some_iff.1 hz).1
      simp only [List.length_append, List.length_cons, List.length_nil, hl] at hlt
      obtain rfl : i = n := by omega
      rw [List.getElem?_append_right (by omega), hl, Nat.sub_self] at hz
      injection hz with hz
      exact hz ▸ hyn

section
variable {H : Type} {enc : TypeId × Value → H} {w : World} {base : Nat} {spare : Nat → Bool} {held : Bool}
theorem sees_bytes {fuel : Nat} {v : Value} {x : DataW H × List MemPlace} (h : DataW.trod enc Try.prog w base spare held fuel 28 [v] = some x) :
    ∃ ls : List Nat, (∀ x ∈ ls, x ≤ 255) ∧ Sees w (fun k => k < w.heap.size) 1 v ls.length (ints .u8 (ls.map fun (x : Nat) => (x : Int))) := by
  rcases open_ints Try.underlying28 Try.underlying5 (by kernel_rfl) h with ⟨hcs, _⟩ | ⟨a, l, c, zs, hcs, _, hl, hm, hz, _, hcell, hwz⟩
  · injection hcs with hcs
    subst hcs
    exact ⟨[], by simp, Sees.nil _ _ _⟩
  · injection hcs with hcs
    subst hcs
    have hzl : l ≤ zs.length := by rw [hz]; split <;> omega
    have hb : ∀ z ∈ zs, 0 ≤ z ∧ z ≤ 255 := fun z hzm => by
      exact wf_u8 (hwz z hzm)
    refine ⟨(zs.take l).map Int.toNat, ?_, ?_⟩
    · intro x hx
      simp only [List.mem_map] at hx
      obtain ⟨z, hz1, rfl⟩ := hx
      have := hb z (List.mem_of_mem_take hz1)
      omega
    · have hmap : ((zs.take l).map Int.toNat).map (fun (x : Nat) => (x : Int)) = zs.take l := by
        rw [List.map_map]
        conv => rhs; rw [← List.map_id (zs.take l)]
        refine List.map_congr_left fun z hz1 => ?_
        have := hb z (List.mem_of_mem_take hz1)
        show ((z.toNat : Nat) : Int) = z
        omega
      have hlen : ((zs.take l).map Int.toNat).length = l := by simp; omega
      rw [hmap, hlen]
      refine ⟨_, c, rfl, hl, by unfold maxLen at hm; omega, by rw [ints_len, List.length_take]; omega, fun hp => ?_⟩
      obtain ⟨b, off, spot⟩ := a
      have h0 := hcell 0 (by omega)
      have hs : spot = none := by simpa [Addr.add] using World.cell?_spot h0
      subst hs
      refine ⟨b, off, rfl, World.block_lt_of_cell? _ _ h0, World.block_lt_of_cell? _ _ h0, fun j u hu => ?_⟩
      rw [ints_get] at hu
      have hj : j < l := by
        rcases Nat.lt_or_ge j l with h | h
        · exact h
        · rw [List.getElem?_eq_none (by rw [List.length_take]; omega)] at hu
          cases hu
      have hc := hcell j (by omega)
      rw [Addr.add_lit] at hc
      rw [hc, ← hu, List.getElem?_take, if_pos hj, List.getD_eq_getElem?_getD, List.getElem?_eq_getElem (show j < zs.length by omega)]
      rfl

theorem reads_of {fuel : Nat} {v : Value} {x : DataW H × List MemPlace} (h : DataW.trod enc Try.prog w base spare held fuel 22 [v] = some x) : ∃ ys, Reads w.heap.size w v ys := by
  rcases open_slice Try.underlying22 h with ⟨hcs, _⟩ | ⟨a, l, c, m, n, D, Pl, hcs, _, hl, hm, hmm, _, hi⟩
  · injection hcs with hcs
    subst hcs
    exact ⟨[], none, 0, rfl, by simp, by simp⟩
  · injection hcs with hcs
    subst hcs
    have hlm : l ≤ m := by rw [hmm]; split <;> omega
    have hC : Try.prog.cellsOf 30 = 3 := by kernel_rfl
    rw [hC] at hi
    have each : ∀ i, i < l → ∃ y : Turn, w.cell? (a.add (i * 3)) = some (.int .u8 y.kind) ∧ w.cell? ((a.add (i * 3)).add 1) = some (.int .u8 y.n) ∧
        (∃ u, w.cell? ((a.add (i * 3)).add 2) = some u ∧ Sees w (fun k => k < w.heap.size) 1 u y.lengths.length (ints .u8 (y.lengths.map fun (x : Nat) => (x : Int)))) ∧ y.kind ≤ 255 ∧ y.n ≤ 255 ∧ ∀ x ∈ y.lengths, x ≤ 255 := by
      intro i hil
      obtain ⟨cs', hc, ht⟩ := hi i (by omega)
      obtain ⟨y0, y1, y2, n', _, hcl, g0, g1, g2⟩ := trod_struct3 Try.underlying30 ht
      obtain ⟨_, _, hat⟩ := World.cells?_some hc
      rw [hC] at hcl
      obtain ⟨c0, c1, c2, rfl⟩ : ∃ c0 c1 c2, cs' = [c0, c1, c2] := by
        match cs', hcl with
        | [c0, c1, c2], _ => exact ⟨c0, c1, c2, rfl⟩
      have h0 : w.cell? (a.add (i * 3)) = some c0 := by simpa [Addr.add] using hat 0 (by omega)
      have h1 := hat 1 (by omega)
      have h2 := hat 2 (by omega)
      obtain ⟨z0, e0, _, w0⟩ := DataW.trod_int Try.underlying5 g0
      obtain ⟨z1, e1, _, w1⟩ := DataW.trod_int Try.underlying5 g1
      have e0' : c0 = .int .u8 z0 := by
        have : [c0] = [Value.int .u8 z0] := e0
        injection this
      have e1' : c1 = .int .u8 z1 := by
        have : [c1] = [Value.int .u8 z1] := e1
        injection this
      subst e0'
      subst e1'
      obtain ⟨ls, hb, hs⟩ := sees_bytes (v := c2) g2
      have b0 : 0 ≤ z0 ∧ z0 ≤ 255 := wf_u8 w0
      have b1 : 0 ≤ z1 ∧ z1 ≤ 255 := wf_u8 w1
      refine ⟨⟨z0.toNat, z1.toNat, ls⟩, ?_, ?_, ⟨c2, h2, hs⟩, ?_, ?_, hb⟩
      · rw [h0]
        congr 2
        show z0 = ((z0.toNat : Nat) : Int)
        omega
      · rw [h1]
        show some (Value.int .u8 z1) = some (.int .u8 ((z1.toNat : Nat) : Int))
        congr 2
        omega
      · show z0.toNat ≤ 255
        omega
      · show z1.toNat ≤ 255
        omega
    obtain ⟨ys, hlen, hys⟩ := list_of l each
    refine ⟨ys, some a, c, by rw [hlen], by omega, fun hp => ?_⟩
    obtain ⟨b, off, spot⟩ := a
    obtain ⟨y0, hy0, _⟩ := each 0 (by omega)
    have hs : spot = none := by simpa [Addr.add] using World.cell?_spot hy0
    subst hs
    refine ⟨b, off, rfl, World.block_lt_of_cell? _ _ hy0, fun i y hy => ?_⟩
    have := hys i y hy
    simp only [Addr.add_lit] at this
    exact this
end

/-! ### Turns that are written out -/
def flat (ts : List (Turn × Value)) : List Value := ts.flatMap fun x => [.int .u8 x.1.kind, .int .u8 x.1.n, x.2]
theorem flat_get (ts : List (Turn × Value)) : ∀ (i : Nat) (x : Turn × Value), ts[i]? = some x → (flat ts)[i * 3]? = some (.int .u8 x.1.kind) ∧ (flat ts)[i * 3 + 1]? = some (.int .u8 x.1.n) ∧ (flat ts)[i * 3 + 2]? = some x.2 := by
  induction ts with
  | nil => intro i x h; simp at h
  | cons t ts ih =>
    intro i x h
    have hf : flat (t :: ts) = .int .u8 t.1.kind :: .int .u8 t.1.n :: t.2 :: flat ts := rfl
    cases i with
    | zero =>
      simp only [List.getElem?_cons_zero, Option.some.injEq] at h
      subst h
      rw [hf]
      exact ⟨rfl, rfl, rfl⟩
    | succ i =>
      have := ih i x (by simpa using h)
      rw [hf]
      simp only [Nat.add_mul, Nat.one_mul, Nat.add_right_comm _ 3]
      exact this
theorem reads_lit {w : World} {B t : Nat} (ts : List (Turn × Value)) (hb : w.heap[B]? = some (.cells (flat ts).toArray t (0, 0)))
    (h : ∀ x ∈ ts, Sees w (fun k => k < w.heap.size) 1 x.2 x.1.lengths.length (ints .u8 (x.1.lengths.map fun (x : Nat) => (x : Int))) ∧ x.1.kind ≤ 255 ∧ x.1.n ≤ 255 ∧ ∀ z ∈ x.1.lengths, z ≤ 255) :
    Reads w.heap.size w (.slice (some ⟨B, 0, none⟩) ts.length ts.length) (ts.map (·.1)) := by
  refine ⟨_, _, by rw [List.length_map], by rw [List.length_map]; exact Nat.le_refl _, fun _ => ⟨B, 0, rfl, (Array.getElem?_eq_some_iff.1 hb).1, fun i y hy => ?_⟩⟩
  rw [List.getElem?_map] at hy
  obtain ⟨x, hx, rfl⟩ := Option.map_eq_some_iff.1 hy
  obtain ⟨h0, h1, h2⟩ := flat_get ts i x hx
  have hm := h x (List.mem_of_getElem? hx)
  refine ⟨?_, ?_, ⟨x.2, ?_, hm.1⟩, hm.2⟩
  · rw [cell_of_row w B _ _ t (0, 0) hb, Nat.zero_add]
    simpa using h0
  · rw [cell_of_row w B _ _ t (0, 0) hb, Nat.zero_add]
    simpa using h1
  · rw [cell_of_row w B _ _ t (0, 0) hb, Nat.zero_add]
    simpa using h2
/-- Numbers that are written out. -/
theorem sees_lit {w : World} {B t : Nat} (k : IntKind) (xs : List Int) (hb : w.heap[B]? = some (.cells (ints k xs).toArray t (0, 0))) (hl : xs.length ≤ 255) :
    Sees w (fun k => k < w.heap.size) 1 (.slice (some ⟨B, 0, none⟩) xs.length xs.length) xs.length (ints k xs) := by
  have hlt := (Array.getElem?_eq_some_iff.1 hb).1
  refine ⟨_, _, rfl, Nat.le_refl _, by omega, by rw [ints_len, Nat.mul_one], fun _ => ⟨B, 0, rfl, hlt, hlt, fun j u hu => ?_⟩⟩
  rw [cell_of_row w B _ _ t (0, 0) hb, Nat.zero_add]
  simpa using hu
end Go.Proofs.Ytcahmhenlpplcaa
