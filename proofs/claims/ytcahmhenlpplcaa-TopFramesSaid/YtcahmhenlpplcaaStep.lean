/-
  A turn leaves what is written down in order.
-/
import Derived.Test.YtcahmhenlpplcaaState
namespace Go.Proofs.Ytcahmhenlpplcaa
open Go.RowKit

theorem total_cons (f : List Int) (fs : List (List Int)) : total (f :: fs) = f.length + total fs := by simp [total]
theorem total_append (a b : List (List Int)) : total (a ++ b) = total a + total b := by simp [total]
theorem begun_le {fr : List (List Int)} {g : Nat} (h : FrOk fr g) : g ≤ total fr := by
  rcases fr with _ | ⟨f, fs⟩
  · rw [h.2.2 rfl]
    exact Nat.zero_le _
  · have := h.2.1 f fs rfl
    rw [total_cons]
    omega
theorem begun_le19 {fr : List (List Int)} {g : Nat} (h : FrOk fr g) (h19 : ∀ x ∈ fr, x.length ≤ 19) : g ≤ 19 := by
  rcases fr with _ | ⟨f, fs⟩
  · rw [h.2.2 rfl]
    exact Nat.zero_le _
  · have := h.2.1 f fs rfl
    have := h19 f (by simp)
    omega
theorem hasEmpty_false {fr : List (List Int)} (h : hasEmpty fr = false) : ∀ f ∈ fr, 0 < f.length := by
  intro f hf
  unfold hasEmpty at h
  rw [List.any_eq_false] at h
  have := h f hf
  simp only [beq_iff_eq] at this
  omega
theorem FrOk.append {a b : List (List Int)} {g : Nat} (h : FrOk a g) (hb : ∀ f ∈ b, 0 < f.length) : FrOk (a ++ b) g := by
  refine ⟨fun f hf => (List.mem_append.1 hf).elim (h.1 f) (hb f), fun f fs he => ?_, fun he => h.2.2 (List.append_eq_nil_iff.1 he).1⟩
  rcases a with _ | ⟨x, xs⟩
  · rw [h.2.2 rfl]
    exact hb f (by simp at he; simp [he])
  · injection he with he _
    exact he ▸ h.2.1 x xs rfl
theorem framesOf_len (l : List Nat) : ∀ i, (framesOf i l).length = l.length := by
  induction l with
  | nil => exact fun _ => rfl
  | cons x xs ih => exact fun i => congrArg (· + 1) (ih (i + 1))
theorem framesOf_19 (l : List Nat) : ∀ i, ∀ x ∈ framesOf i l, x.length ≤ 19 := by
  induction l with
  | nil => intro i x h; simp [framesOf] at h
  | cons y ys ih =>
    intro i x h
    rcases List.mem_cons.1 h with rfl | h
    · rw [frameOf_len]
      omega
    · exact ih _ x h
theorem framesOf_snoc (l : List Nat) (x : Nat) : ∀ i, framesOf i (l ++ [x]) = framesOf i l ++ [frameOf (x % 20) ((i + l.length : Nat) : Int)] := by
  induction l with
  | nil => exact fun i => rfl
  | cons y ys ih =>
    intro i
    simp only [List.cons_append, framesOf, ih, List.length_cons]
    rw [show i + 1 + ys.length = i + (ys.length + 1) from by omega]
/-- What is taken leaves what waits less what was taken. -/
theorem take_ok {st : St} {room : Int} {t : Nat} (h : st.Ok room t) (n : Nat) : FrOk (st.take n).fr (st.take n).begun ∧ (∀ x ∈ (st.take n).fr, x.length ≤ 19) ∧ (st.take n).waits = st.waits - n := by
  obtain ⟨_, _, k3, k4⟩ := takeTo_eq st.fr n st.begun h.f
  refine ⟨k3, fun x hx => h.n x (List.mem_of_mem_drop hx), ?_⟩
  have := congrArg List.length k4
  simp only [List.length_drop, total_flatten] at this
  unfold St.waits
  simp only [St.take]
  omega
theorem step_ok {room : Int} {i : Nat} {y : Turn} {st : St} (h : st.Ok room i) (h0 : 0 ≤ room) (h1 : room ≤ 60) (hn : y.n ≤ 255) : (st.step room i y).Ok room (i + 1) := by
  have hg1 := h.g1
  have hw := h.w
  have same : st.Ok room (i + 1) := ⟨h.f, h.n, h.w, h.l0, h.l1, h.g0, by omega⟩
  have hb := begun_le h.f
  unfold St.step
  split
  · split
    · exact same
    · rename_i he
      split
      · exact same
      · rename_i hr
        have he2 : hasEmpty (framesOf i (y.lengths.take 4)) = false := by simpa using he
        refine ⟨h.f.append (hasEmpty_false he2), fun x hx => (List.mem_append.1 hx).elim (h.n x) (framesOf_19 _ _ x), ?_, h.l0, h.l1, h.g0, by simpa using same.g1⟩
        unfold St.waits at hr ⊢
        simp only [total_append]
        omega
  · split
    · refine ⟨h.f, h.n, h.w, ?_, ?_, h.g0, same.g1⟩
      · have := h.l0
        simp only [granted]
        split <;> omega
      · have := h.l1
        simp only [granted]
        split <;> omega
    · split
      · obtain ⟨k1, k2, k3⟩ := take_ok h st.goes
        have hl := h.l0
        have hg : (st.goes : Int) ≤ st.left ∧ st.goes ≤ st.waits := by
          unfold St.goes
          omega
        have hl1 := h.l1
        have hg0 := h.g0
        refine ⟨k1, k2, ?_, ?_, ?_, ?_, ?_⟩
        · have h2 : ({ st.take st.goes with left := st.left - st.goes, gone := st.gone + st.goes } : St).waits = (st.take st.goes).waits := rfl
          rw [h2, k3]
          omega
        · show 0 ≤ st.left - st.goes
          omega
        · show st.left - st.goes ≤ _
          omega
        · show 0 ≤ st.gone + st.goes
          omega
        · show st.gone + st.goes ≤ _
          omega
      · split
        · split
          · exact same
          · obtain ⟨k1, k2, k3⟩ := take_ok h (y.n - 3)
            refine ⟨k1, k2, ?_, h.l0, h.l1, h.g0, same.g1⟩
            rw [k3]
            omega
        · split
          · exact ⟨h.f, h.n, h.w, by show (0 : Int) ≤ 0; decide, by show (0 : Int) ≤ _; omega, h.g0, same.g1⟩
          · refine ⟨⟨by simp, by simp, fun _ => rfl⟩, by simp, ?_, h.l0, h.l1, h.g0, same.g1⟩
            simp only [St.waits, total]
            simpa using h0
end Go.Proofs.Ytcahmhenlpplcaa
