/-
  What is taken of the queue, as it is written down; how what may go is shared.
-/
import Derived.Test.YtcahmhenlpplcaaStep
namespace Go.Proofs.Ytcahmhenlpplcaa
open Go.RowKit

theorem goesTo_bd {xs : List Int} (h : ∀ x ∈ xs, 0 ≤ x) : ∀ (p : Int), 0 ≤ p → p ≤ 1048576 → 0 ≤ (goesTo xs p).2 ∧ (goesTo xs p).2 ≤ 1048576 := by
  induction xs with
  | nil => exact fun p h0 h1 => ⟨h0, h1⟩
  | cons x xs ih =>
    intro p h0 h1
    have hx := h x (by simp)
    simp only [goesTo]
    split
    · exact ih (fun z hz => h z (by simp [hz])) _ (by omega) (by omega)
    · exact ⟨h0, h1⟩
theorem lensOf_pos (fr : List (List Int)) : ∀ x ∈ lensOf fr, 0 ≤ x := by
  intro x hx
  simp only [lensOf, List.mem_map] at hx
  obtain ⟨f, _, rfl⟩ := hx
  omega

theorem PI.take_ {A : Adr} {D : Dat} {n0 : Nat} {w0 W : World} {room : Int} {LI LB : Nat} {st : St} {l g : Int} {s : Bool} {begun left gone : Int} {t : Nat}
    (h : PI A D n0 w0 room LI LB (lensOf st.fr) (st.fr.flatten.drop st.begun) st.begun st.fr begun left gone s l g s W) (ho : st.Ok room t) (hr : room ≤ 60) (hLI : LI ≤ 1048576) (hLB : LB ≤ 1048000)
    (n : Nat) (T : List Int × Nat × Nat) (hT : takeTo n st.fr st.begun = T) :
    Calls Try.prog 15 #[.pointer (some ⟨A.bq, 0, none⟩), .int .i64 n] W (Ends fun e w' => ∃ r, e = .returned (.tuple #[r, .int .i64 T.2.1, .int .i64 0]) ∧
      Row w' 5 1 r T.1.length (ints .u8 T.1) ∧ (∀ k, some k = r.ownBlock → W.heap.size ≤ k) ∧
      OqTo W A.bq A.cq D.vI D.vB (lensOf (st.fr.drop T.2.1)) T.2.2 ((st.fr.drop T.2.1).flatten.drop T.2.2) room LI LB w') := by
  obtain ⟨k1, k2, k3, k4⟩ := takeTo_eq st.fr n st.begun ho.f
  rw [hT] at k1 k2 k3 k4
  have hbt : st.begun ≤ total st.fr := begun_le ho.f
  have hbe := begun_le19 ho.f ho.n
  have hwv := ho.w
  unfold St.waits at hwv
  have hll := h.ll
  have hla := h.la
  have halls : D.all.length - D.gB = total st.fr - st.begun := by
    have := congrArg List.length h.ha
    rw [List.length_drop, List.length_drop, total_flatten] at this
    omega
  have hQ := oqTake_any h.oq (by omega) (by omega) (n : Int) (by omega) (by omega) (by rw [h.hl]; exact fun p hp1 hp0 => goesTo_bd (lensOf_pos _) p hp0 hp1)
  rw [halls, h.hl, h.ha] at hQ
  have hdl : (st.fr.flatten.drop st.begun).length = total st.fr - st.begun := by rw [List.length_drop, total_flatten]
  have htk : tk (n : Int) (total st.fr - st.begun) = min n (total st.fr - st.begun) := by
    unfold tk
    omega
  have htl : T.1.length = min n (total st.fr - st.begun) := by rw [k1, List.length_take, hdl]
  have htt : (st.fr.flatten.drop st.begun).take (min n (total st.fr - st.begun)) = T.1 := by
    rw [k1, ← hdl]
    rcases Nat.le_total n (st.fr.flatten.drop st.begun).length with h | h
    · rw [Nat.min_eq_left h]
    · rw [Nat.min_eq_right h, List.take_of_length_le (Nat.le_refl _), List.take_of_length_le h]
  have htd : (st.fr.flatten.drop st.begun).drop (min n (total st.fr - st.begun)) = (st.fr.drop T.2.1).flatten.drop T.2.2 := by
    rw [k4, ← hdl]
    rcases Nat.le_total n (st.fr.flatten.drop st.begun).length with h | h
    · rw [Nat.min_eq_left h]
    · rw [Nat.min_eq_right h, List.drop_of_length_le (Nat.le_refl _), List.drop_of_length_le h]
  rw [htk, show (st.begun : Int) + ((min n (total st.fr - st.begun) : Nat) : Int) = ((st.begun + min n (total st.fr - st.begun) : Nat) : Int) from by omega, k2, htt, htd, ← htl] at hQ
  refine hQ.mono ?_
  rintro e w' ⟨r, he, hr, ho, vI', vB', lens', gI', all', gB', q1, q2, q3, q4, q5, q6⟩
  refine ⟨r, he, hr, ho, vI', vB', lens', gI', all', gB', q1, ?_, q3, by omega, by omega, q6⟩
  rw [q2]
  simp [lensOf]

/-! ### Shares -/
theorem sum_pos (xs : List Int) (h : ∀ x ∈ xs, 0 ≤ x) : 0 ≤ xs.sum := by
  induction xs with
  | nil => simp
  | cons y ys ih =>
    have := ih (fun z hz => h z (by simp [hz]))
    have := h y (by simp)
    simp only [List.sum_cons]
    omega
theorem sharesLeft_zero (xs : List Int) : ∀ l, (∀ x ∈ xs, 0 ≤ x) → 0 ≤ l → l ≤ xs.sum → sharesLeft l xs = 0 := by
  induction xs with
  | nil => intro l _ h0 h1; simp at h1; simp only [sharesLeft]; omega
  | cons x xs ih =>
    intro l h h0 h1
    have hx := h x (by simp)
    simp only [List.sum_cons] at h1
    have hs := sum_pos xs (fun z hz => h z (by simp [hz]))
    exact ih _ (fun z hz => h z (by simp [hz])) (by omega) (by omega)
theorem shares_min (xs : List Int) : ∀ l m, (∀ x ∈ xs, 0 ≤ x) → 0 ≤ m → m ≤ l → (m < l → xs.sum ≤ m) → shares l xs = shares m xs := by
  induction xs with
  | nil => exact fun _ _ _ _ _ _ => rfl
  | cons x xs ih =>
    intro l m h h0 h1 h2
    have hx := h x (by simp)
    have hs := sum_pos xs (fun z hz => h z (by simp [hz]))
    simp only [List.sum_cons] at h2
    simp only [shares]
    have e : min x l = min x m := by
      rcases Int.lt_or_le m l with hl | hl
      · have := h2 hl
        omega
      · have : m = l := by omega
        rw [this]
    rw [e, ih (l - min x m) (m - min x m) (fun z hz => h z (by simp [hz])) (by omega) (by omega) (fun hl => by have := h2 (by omega); omega)]
/-- A share, and what is left behind it. -/
theorem shares_at (xs : List Int) : ∀ l k, (hk : k < xs.length) → (shares l xs)[k]? = some (min xs[k] (sharesLeft l (xs.take k))) := by
  induction xs with
  | nil => intro l k hk; simp at hk
  | cons x xs ih =>
    intro l k hk
    cases k with
    | zero => simp [shares, sharesLeft]
    | succ k =>
      have := ih (l - min x l) k (by simpa using hk)
      simpa [shares, sharesLeft] using this
theorem lensOf_cons (f : List Int) (fs : List (List Int)) : lensOf (f :: fs) = (f.length : Int) :: lensOf fs := rfl
theorem lensOf_sum (fr : List (List Int)) : (lensOf fr).sum = total fr := by
  induction fr with
  | nil => simp [lensOf, total]
  | cons f fs ih =>
    rw [lensOf_cons, List.sum_cons, ih, total_cons]
    omega
theorem waitsOf_sum {fr : List (List Int)} {b : Nat} (h : FrOk fr b) : (waitsOf (lensOf fr) b).sum = (total fr : Int) - b := by
  rcases fr with _ | ⟨f, fs⟩
  · rw [h.2.2 rfl]
    simp [waitsOf, lensOf, total]
  · show (((f.length : Int) - b) :: lensOf fs).sum = _
    rw [List.sum_cons, lensOf_sum, total_cons]
    omega
theorem waitsOf_bd {fr : List (List Int)} {b : Nat} (h : FrOk fr b) (h19 : ∀ x ∈ fr, x.length ≤ 19) : ∀ x ∈ waitsOf (lensOf fr) b, 0 ≤ x ∧ x ≤ 19 := by
  rcases fr with _ | ⟨f, fs⟩
  · simp [waitsOf, lensOf]
  · intro x hx
    have h1 := h.2.1 f fs rfl
    have h2 := h19 f (by simp)
    rcases List.mem_cons.1 (show x ∈ ((f.length : Int) - b) :: lensOf fs from hx) with rfl | hx
    · omega
    · simp only [lensOf, List.mem_map] at hx
      obtain ⟨g, hg, rfl⟩ := hx
      have := h19 g (by simp [hg])
      omega
theorem waits_get {fr : List (List Int)} {b : Int} {k : Nat} (h : k < fr.length) : (waitsOf (lensOf fr) b).getD k 0 = if k = 0 then ((fr[k].length : Nat) : Int) - b else ((fr[k].length : Nat) : Int) := by
  rcases fr with _ | ⟨f, fs⟩
  · simp at h
  · cases k with
    | zero => simp [waitsOf, lensOf]
    | succ k =>
      have : k < fs.length := by simpa using h
      simp [waitsOf, lensOf, this]
end Go.Proofs.Ytcahmhenlpplcaa
