/- Arguments opened: images. Conditions: none. -/
import Derived.Test.YtfmbpdacdopkgaaGreatDoorImgL
import Derived.Test.YtfmbpdacdopkgaaGreatDoorAiRow
import Derived.Lib.LaidTab
namespace Go.Proofs.YtfmbpdacdopkgaaGreatDoor
set_option maxRecDepth 100000
open Go Go.Ai
open Go.ChangeShapes Go.WideShapes Go.ChangeAt Go.RowKit

theorem own : ownKnob Tryz.prog.godebug = none := by kernel_rfl
theorem laidOut : laidOutB Tryz.prog = true := by kernel_rfl
theorem cells3 : Tryz.prog.cellsOf 3 = 1 := by kernel_rfl
theorem cells4 : Tryz.prog.cellsOf 4 = 1 := by kernel_rfl
theorem cells35 : Tryz.prog.cellsOf 35 = 64 := by kernel_rfl
theorem cells37 : Tryz.prog.cellsOf 37 = 192 := by kernel_rfl

theorem ints_of : ∀ {c : List Value}, (∀ i, i < c.length → ∃ n, c[i]? = some (.int .i64 n)) → ∃ l : List Int, c = l.map (Value.int .i64)
  | [], _ => ⟨[], rfl⟩
  | x :: c, h => by
    obtain ⟨n, hn⟩ := h 0 (by simp)
    obtain ⟨l, hl⟩ := ints_of (c := c) fun i hi => by
      obtain ⟨m, hm⟩ := h (i + 1) (by simpa using hi)
      exact ⟨m, by simpa using hm⟩
    simp at hn
    exact ⟨n :: l, by rw [hn, hl]; rfl⟩

section
variable {H : Type} {enc : TypeId × Value → H} {W : World} {base : Nat} {sp : Nat → Bool} {hd : Bool}
theorem trod_int {fuel : Nat} {c : List Value} (h : (DataW.trod enc Tryz.prog W base sp hd fuel 3 c).isSome = true) : ∃ x, c = [.int .i64 x] := by
  cases fuel with
  | zero => simp [DataW.trod] at h
  | succ fuel =>
    unfold DataW.trod at h
    simp only [Tryz.underlying3] at h
    split at h <;> simp_all
theorem trod_bool {fuel : Nat} {c : List Value} (h : (DataW.trod enc Tryz.prog W base sp hd fuel 4 c).isSome = true) : ∃ x, c = [.bool x] := by
  cases fuel with
  | zero => simp [DataW.trod] at h
  | succ fuel =>
    unfold DataW.trod at h
    simp only [Tryz.underlying4] at h
    split at h <;> simp_all
theorem trod_arr {fuel : Nat} {c : List Value} (h : (DataW.trod enc Tryz.prog W base sp hd fuel 35 c).isSome = true) : c.length = 64 ∧ ∃ l : List Int, c = l.map (Value.int .i64) := by
  cases fuel with
  | zero => simp [DataW.trod] at h
  | succ fuel =>
    unfold DataW.trod at h
    simp only [Tryz.underlying35, cells35, cells3] at h
    split at h
    · rename_i hl
      refine ⟨hl, ints_of fun i hi => ?_⟩
      obtain ⟨x, hx⟩ := Option.isSome_iff_exists.1 h
      obtain ⟨xs, hm, _⟩ := Option.map_eq_some_iff.1 hx
      have hr : (List.range 64)[i]? = some i := List.getElem?_range (by omega)
      obtain ⟨b, _, e⟩ := Lib.mapM_at hm i i hr
      obtain ⟨n, hn⟩ := trod_int (fuel := fuel) (c := (c.drop (i * 1)).take 1) (by rw [e]; rfl)
      refine ⟨n, ?_⟩
      rw [Nat.mul_one] at hn
      have := congrArg (·[0]?) hn
      simpa [List.getElem?_take, List.getElem?_drop] using this
    · cases h
theorem trod_img {fuel : Nat} {c : List Value} (h : (DataW.trod enc Tryz.prog W base sp hd fuel 37 c).isSome = true) : ∃ l : List Int, l.length = 192 ∧ c = l.map (Value.int .i64) := by
  cases fuel with
  | zero => simp [DataW.trod] at h
  | succ fuel =>
    unfold DataW.trod at h
    simp only [Tryz.underlying37, cells37] at h
    split at h
    · rename_i hl
      obtain ⟨x, hx⟩ := Option.isSome_iff_exists.1 h
      obtain ⟨xs, hm, _⟩ := Option.map_eq_some_iff.1 hx
      have part : ∀ (j : Nat) (f : Field), [(⟨"I", 35, 0, false, "", "", 0⟩ : Field), ⟨"Q", 35, 64, false, "", "", 512⟩, ⟨"M", 35, 128, false, "", "", 1024⟩][j]? = some f → ∃ l : List Int, (c.drop f.offset).take (Tryz.prog.cellsOf f.type) = l.map (Value.int .i64) := by
        intro j f hj
        obtain ⟨b, _, e⟩ := Lib.mapM_at hm j f hj
        have ht : f.type = 35 := by
          match j, hj with
          | 0, hj => simp at hj; rw [← hj]
          | 1, hj => simp at hj; rw [← hj]
          | 2, hj => simp at hj; rw [← hj]
          | j + 3, hj => simp at hj
        rw [ht] at e ⊢
        exact (trod_arr (fuel := fuel) (by rw [e]; rfl)).2
      obtain ⟨l0, h0⟩ := part 0 _ rfl
      obtain ⟨l1, h1⟩ := part 1 _ rfl
      obtain ⟨l2, h2⟩ := part 2 _ rfl
      simp only [cells35] at h0 h1 h2
      have hall : ∃ l : List Int, c = l.map (Value.int .i64) := by
        refine ⟨l0 ++ l1 ++ l2, ?_⟩
        rw [List.map_append, List.map_append, ← h0, ← h1, ← h2]
        have h3 : (c.drop 128).take 64 = c.drop 128 := List.take_of_length_le (by simp; omega)
        have h4 : (c.drop 64).take 64 ++ c.drop 128 = c.drop 64 := by
          have := List.take_append_drop 64 (c.drop 64)
          rwa [List.drop_drop] at this
        rw [List.drop_zero, h3, List.append_assoc, h4, List.take_append_drop]
      obtain ⟨l, rfl⟩ := hall
      exact ⟨l, by simpa using hl, rfl⟩
    · cases h

theorem open_img {v : Value} {d : DataW H} {ps : List MemPlace} (h : DataW.Trod enc Tryz.prog W base sp hd 37 v d ps) : ∃ l : List Int, l.length = 192 ∧ v = .agg (l.map (Value.int .i64)).toArray := by
  obtain ⟨fuel, h⟩ := h
  obtain ⟨l, hl, hc⟩ := trod_img (by rw [h]; rfl)
  refine ⟨l, hl, ?_⟩
  cases v with
  | agg cs =>
    obtain ⟨cs⟩ := cs
    simp only [Value.cells] at hc
    rw [hc]
  | _ =>
    simp only [Value.cells] at hc
    have := congrArg List.length hc
    simp [hl] at this
end
end Go.Proofs.YtfmbpdacdopkgaaGreatDoor
