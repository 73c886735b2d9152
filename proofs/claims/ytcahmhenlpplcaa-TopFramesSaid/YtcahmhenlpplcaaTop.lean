/-
  The statement's own function.
-/
import Derived.Test.YtcahmhenlpplcaaRead
namespace Go.Proofs.Ytcahmhenlpplcaa
open Go.RowKit
set_option maxRecDepth 100000

def turnsA : List Turn := [⟨0, 0, [3, 2]⟩, ⟨0, 0, []⟩, ⟨0, 0, [5]⟩, ⟨0, 0, [1, 0]⟩, ⟨6, 5, []⟩, ⟨6, 5, []⟩, ⟨0, 0, [2]⟩, ⟨6, 12, []⟩, ⟨6, 2, []⟩, ⟨0, 0, [3, 1, 1]⟩, ⟨6, 4, []⟩, ⟨7, 0, []⟩]
def turnsB : List Turn := [⟨0, 0, [3, 4]⟩, ⟨3, 5, []⟩, ⟨5, 0, []⟩, ⟨5, 0, []⟩, ⟨3, 9, []⟩, ⟨0, 0, [9]⟩, ⟨5, 0, []⟩, ⟨7, 255, []⟩, ⟨3, 7, []⟩, ⟨5, 0, []⟩]
theorem goneA : (runTurns 9 0 turnsA St.start).gone = 0 := by kernel_rfl
theorem goneB : (runTurns 30 0 turnsB St.start).gone = 14 := by kernel_rfl
def at_ (b n : Nat) : Value := .slice (some ⟨b, 0, none⟩) n n
theorem sees_nat {w : World} {B t : Nat} (ls : List Nat) (hb : w.heap[B]? = some (.cells (ints .u8 (ls.map fun (x : Nat) => (x : Int))).toArray t (0, 0))) (hl : ls.length ≤ 255) :
    Sees w (fun k => k < w.heap.size) 1 (at_ B ls.length) ls.length (ints .u8 (ls.map fun (x : Nat) => (x : Int))) := by
  have := sees_lit .u8 (ls.map fun (x : Nat) => (x : Int)) hb (by simpa using hl)
  rwa [List.length_map] at this
def cellsA (b : Nat) : List (Turn × Value) := [(⟨0, 0, [3, 2]⟩, at_ b 2), (⟨0, 0, []⟩, .slice none 0 0), (⟨0, 0, [5]⟩, at_ (b + 1) 1), (⟨0, 0, [1, 0]⟩, at_ (b + 1 + 1) 2), (⟨6, 5, []⟩, .slice none 0 0), (⟨6, 5, []⟩, .slice none 0 0), (⟨0, 0, [2]⟩, at_ (b + 1 + 1 + 1) 1), (⟨6, 12, []⟩, .slice none 0 0), (⟨6, 2, []⟩, .slice none 0 0), (⟨0, 0, [3, 1, 1]⟩, at_ (b + 1 + 1 + 1 + 1) 3), (⟨6, 4, []⟩, .slice none 0 0), (⟨7, 0, []⟩, .slice none 0 0)]
def cellsB (b : Nat) : List (Turn × Value) := [(⟨0, 0, [3, 4]⟩, at_ b 2), (⟨3, 5, []⟩, .slice none 0 0), (⟨5, 0, []⟩, .slice none 0 0), (⟨5, 0, []⟩, .slice none 0 0), (⟨3, 9, []⟩, .slice none 0 0), (⟨0, 0, [9]⟩, at_ (b + 1) 1), (⟨5, 0, []⟩, .slice none 0 0), (⟨7, 255, []⟩, .slice none 0 0), (⟨3, 7, []⟩, .slice none 0 0), (⟨5, 0, []⟩, .slice none 0 0)]

theorem pushedA (W : World) (v : Value) (h : Reads W.heap.size W v turnsA) : Calls Try.prog 5 #[.int .i64 9, v] W (Ends fun e w' => e = .returned (.tuple #[.int .u64 0, .bool true]) ∧ Below W.heap.size W w') :=
  (pushed23_any 9 v turnsA W (by decide) (by decide) (by decide) h).mono fun _ _ ⟨he, hb⟩ => ⟨by rw [goneA] at he; exact he, hb⟩
theorem pushedB (W : World) (v : Value) (h : Reads W.heap.size W v turnsB) : Calls Try.prog 5 #[.int .i64 30, v] W (Ends fun e w' => e = .returned (.tuple #[.int .u64 14, .bool true]) ∧ Below W.heap.size W w') :=
  (pushed23_any 30 v turnsB W (by decide) (by decide) (by decide) h).mono fun _ _ ⟨he, hb⟩ => ⟨by rw [goneB] at he; exact he, hb⟩

theorem readsA (w : World) {W : World} (hW : W = (((((w.alloc (.cells #[.int .u8 3, .int .u8 2] 5)).alloc (.cells #[.int .u8 5] 5)).alloc (.cells #[.int .u8 1, .int .u8 0] 5)).alloc (.cells #[.int .u8 2] 5)).alloc (.cells #[.int .u8 3, .int .u8 1, .int .u8 1] 5)).alloc (.cells (flat (cellsA w.heap.size)).toArray 30)) :
    Reads W.heap.size W (at_ (w.heap.size + 1 + 1 + 1 + 1 + 1) 12) turnsA ∧ Below w.heap.size w W := by
  subst hW
  refine ⟨reads_lit (t := 30) (cellsA w.heap.size) (heap_alloc_at _ _ _ (by simp)) ?_, ?_⟩
  · simp only [cellsA, List.forall_mem_cons]
    exact ⟨⟨sees_nat [3, 2] (t := 5) (by show Blk _ _ _ _; repeat (first | exact heap_alloc_at _ _ _ (by simp) | refine Blk.alloc ?_ _)) (by decide), by decide, by decide, by decide⟩,
      ⟨Sees.nil _ _ _, by decide, by decide, by decide⟩,
      ⟨sees_nat [5] (t := 5) (by show Blk _ _ _ _; repeat (first | exact heap_alloc_at _ _ _ (by simp) | refine Blk.alloc ?_ _)) (by decide), by decide, by decide, by decide⟩,
      ⟨sees_nat [1, 0] (t := 5) (by show Blk _ _ _ _; repeat (first | exact heap_alloc_at _ _ _ (by simp) | refine Blk.alloc ?_ _)) (by decide), by decide, by decide, by decide⟩,
      ⟨Sees.nil _ _ _, by decide, by decide, by decide⟩,
      ⟨Sees.nil _ _ _, by decide, by decide, by decide⟩,
      ⟨sees_nat [2] (t := 5) (by show Blk _ _ _ _; repeat (first | exact heap_alloc_at _ _ _ (by simp) | refine Blk.alloc ?_ _)) (by decide), by decide, by decide, by decide⟩,
      ⟨Sees.nil _ _ _, by decide, by decide, by decide⟩,
      ⟨Sees.nil _ _ _, by decide, by decide, by decide⟩,
      ⟨sees_nat [3, 1, 1] (t := 5) (by show Blk _ _ _ _; repeat (first | exact heap_alloc_at _ _ _ (by simp) | refine Blk.alloc ?_ _)) (by decide), by decide, by decide, by decide⟩,
      ⟨Sees.nil _ _ _, by decide, by decide, by decide⟩,
      ⟨Sees.nil _ _ _, by decide, by decide, by decide⟩, by simp⟩
  · repeat (first | exact Below.refl _ _ | refine Below.alloc ?_ (by first | exact Nat.le_refl _ | (simp only [World.size_alloc]; omega)) _)
theorem readsB (w : World) {W : World} (hW : W = ((w.alloc (.cells #[.int .u8 3, .int .u8 4] 5)).alloc (.cells #[.int .u8 9] 5)).alloc (.cells (flat (cellsB w.heap.size)).toArray 30)) :
    Reads W.heap.size W (at_ (w.heap.size + 1 + 1) 10) turnsB ∧ Below w.heap.size w W := by
  subst hW
  refine ⟨reads_lit (t := 30) (cellsB w.heap.size) (heap_alloc_at _ _ _ (by simp)) ?_, ?_⟩
  · simp only [cellsB, List.forall_mem_cons]
    exact ⟨⟨sees_nat [3, 4] (t := 5) (by show Blk _ _ _ _; repeat (first | exact heap_alloc_at _ _ _ (by simp) | refine Blk.alloc ?_ _)) (by decide), by decide, by decide, by decide⟩,
      ⟨Sees.nil _ _ _, by decide, by decide, by decide⟩,
      ⟨Sees.nil _ _ _, by decide, by decide, by decide⟩,
      ⟨Sees.nil _ _ _, by decide, by decide, by decide⟩,
      ⟨Sees.nil _ _ _, by decide, by decide, by decide⟩,
      ⟨sees_nat [9] (t := 5) (by show Blk _ _ _ _; repeat (first | exact heap_alloc_at _ _ _ (by simp) | refine Blk.alloc ?_ _)) (by decide), by decide, by decide, by decide⟩,
      ⟨Sees.nil _ _ _, by decide, by decide, by decide⟩,
      ⟨Sees.nil _ _ _, by decide, by decide, by decide⟩,
      ⟨Sees.nil _ _ _, by decide, by decide, by decide⟩,
      ⟨Sees.nil _ _ _, by decide, by decide, by decide⟩, by simp⟩
  · repeat (first | exact Below.refl _ _ | refine Below.alloc ?_ (by first | exact Nat.le_refl _ | (simp only [World.size_alloc]; omega)) _)

set_option maxHeartbeats 1000000 in
theorem pushes23_any (w : World) : Calls Try.prog 4 #[] w (Ends fun e w' => e = .returned (.bool true) ∧ Below w.heap.size w w') := by
  go_enter Try.func4, Try.ntmps4
  go_wp2_with (first
    | (go_at_call 5; (with_reducible refine (pushedA _ _ ?reads).mono ?_); go_must ((case reads => exact (readsA w (by rfl)).1); rintro e w1 ⟨rfl, hb1⟩; have B1 := Lib.hid ((readsA w rfl).2.trans (hb1.mono (by simp; omega))); clear hb1))
    | (go_at_call 5; (with_reducible refine (pushedB _ _ ?reads).mono ?_); go_must ((case reads => exact (readsB w1 (by rfl)).1); rintro e w2 ⟨rfl, hb2⟩; have B2 := Lib.hid ((readsB w1 rfl).2.trans (hb2.mono (by simp; omega))); clear hb2)))
  go_ret
  exact ⟨rfl, B1.out.trans (B2.out.mono B1.out.size)⟩

theorem topFrames_any (room : Nat) (lv : Value) (ys : List Turn) (w : World) (h0 : room ≤ 255) (hr : Reads w.heap.size w lv ys) :
    Calls Try.prog 3 #[.int .u8 room, lv] w (Ends fun e w' => e = .returned (.bool true) ∧ Below w.heap.size w w') := by
  obtain ⟨A, c, rfl, hr2⟩ := id hr
  have HR := Lib.hid hr
  clear hr hr2
  by_cases hl : ys.length ≤ 60
  · have hP := pushed23_any ((room : Int) % 61) (.slice A ys.length c) ys w (by omega) (by omega) hl HR.out
    obtain ⟨g, hg⟩ : ∃ g, (runTurns ((room : Int) % 61) 0 ys St.start).gone = g := ⟨_, rfl⟩
    rw [hg] at hP
    have HP := Lib.hid hP
    clear hP hg
    have hli : ¬ (60 : Int) < (ys.length : Int) := by omega
    go_enter Try.func3, Try.ntmps3
    go_wp2_with (first
      | (go_at_call 5; go_must (refine HP.out.mono ?_; rintro e w1 ⟨rfl, hb1⟩; have B1 := Lib.hid hb1; clear hb1))
      | (go_at_call 4; go_must (refine (pushes23_any _).mono ?_; rintro e w2 ⟨rfl, hb2⟩; have B2 := Lib.hid hb2; clear hb2)))
    go_ret
    exact ⟨rfl, B1.out.trans (B2.out.mono B1.out.size)⟩
  · have hli : (60 : Int) < (ys.length : Int) := by omega
    go_enter Try.func3, Try.ntmps3
    go_wp2_with (go_at_call 4; go_must (refine (pushes23_any _).mono ?_; rintro e w2 ⟨rfl, hb2⟩; have B2 := Lib.hid hb2; clear hb2))
    go_ret
    exact ⟨rfl, B2.out⟩
end Go.Proofs.Ytcahmhenlpplcaa
