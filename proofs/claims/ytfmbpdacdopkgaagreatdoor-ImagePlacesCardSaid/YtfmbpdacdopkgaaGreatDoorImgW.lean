/- Contracts: Parse, the reference's Parse, Text out of range. Conditions: the two sentinels of strconv hold errors. -/
import Derived.Test.YtfmbpdacdopkgaaGreatDoorImgV
import Derived.Lib.Strings
namespace Go.Proofs.YtfmbpdacdopkgaaGreatDoor
set_option maxRecDepth 100000
open Go Go.Ai
open Go.RowKit (Below)

theorem txt_list (a n : Nat) : (txt a n).toList = 37 :: letter a :: dig n := by rw [Lib.toList_data]; simp [txt]

theorem dig_inj : ∀ n, n < 64 → ∀ m, m < 64 → dig n = dig m → n = m := by decide +kernel
theorem dig_atoi : ∀ n, n < 64 → Lib.atoiAll (dig n) = .ok (n : Int) := by
  have h : ((List.range 64).all fun n => match Lib.atoiAll (dig n) with | .ok v => v == (n : Int) | _ => false) = true := by decide +kernel
  intro n hn
  rw [List.all_eq_true] at h
  have := h n (by simpa using hn)
  split at this
  · rename_i v hv; rw [hv]; simp at this; rw [this]
  · cases this
theorem letter_inj : ∀ a, a < 4 → ∀ b, b < 4 → 1 ≤ a → 1 ≤ b → letter a = letter b → a = b := by decide +kernel

theorem txt_inj {a n b m : Nat} (ha : 1 ≤ a) (ha3 : a ≤ 3) (hn : n < 64) (hb : 1 ≤ b) (hb3 : b ≤ 3) (hm : m < 64) (h : (txt a n).toList = (txt b m).toList) : a = b ∧ n = m := by
  rw [txt_list, txt_list] at h
  simp at h
  exact ⟨letter_inj a (by omega) b (by omega) ha hb h.1, dig_inj n hn m hm h.2⟩

theorem head_list {a : Int} (h1 : 1 ≤ a) (h3 : a ≤ 3) : (head a).toList = [37, letter a.toNat] := by
  rw [Lib.toList_data]
  have : a = 1 ∨ a = 2 ∨ a = 3 := by omega
  rcases this with rfl | rfl | rfl <;> rfl

theorem cut2 (s : ByteArray) (h : 2 ≤ s.size) : s.toList = (s.extract 0 2).toList ++ (s.extract 2 s.size).toList := by
  rw [Lib.toList_data, Lib.toList_data, Lib.toList_data]
  obtain ⟨⟨l⟩⟩ := s
  simp [ByteArray.data_extract, ByteArray.size]
  rw [List.take_of_length_le (l := List.drop 2 l) (by simp)]
  exact (List.take_append_drop 2 l).symm

theorem und9 : E1.und 9 = some .string := by show Tryz.prog.underlying 9 = _; kernel_rfl
theorem und81 : ∃ ms, E1.und 81 = some (.interface ms) := by
  have h : (match Tryz.prog.underlying 81 with | some (.interface _) => true | _ => false) = true := by kernel_rfl
  show ∃ ms, Tryz.prog.underlying 81 = some (.interface ms)
  split at h
  · rename_i ms hm; exact ⟨ms, hm⟩
  · cases h
theorem nil81 : eqA E1 .eql 81 (.tmp 33) (.const .nilIface) (.v .nilIface) (.v .nilIface) = some (.b true) := by
  have h : (match runA Tryz.prog (do eqGuard .eql 81 (.tmp 33) (.const .nilIface) .nilIface .nilIface; binOp .eql 81 .nilIface .nilIface) with | some (.bool b) => b | _ => false) = true := by kernel_rfl
  show (runA Tryz.prog (do eqGuard .eql 81 (.tmp 33) (.const .nilIface) .nilIface .nilIface; binOp .eql 81 .nilIface .nilIface)).map AV.v = _
  split at h
  · rename_i b hb; rw [hb]; subst h; rfl
  · cases h

theorem tup_inv {w : World} {l : List Value} {xs : List AV} (h : AV.exacts? xs = some l) : ∀ ρ z, VRel w ρ (.tup xs) z → z = .tuple l.toArray := fun ρ z hz => by
  cases hz with
  | tup hz =>
    rename_i c
    have := VRels.exact hz h
    obtain ⟨c⟩ := c
    simp at this
    rw [this]

/-- No address of a slot. -/
def NoAddr (s : ByteArray) : Prop := ∀ a n, 1 ≤ a → a ≤ 3 → n < 64 → s.toList ≠ (txt a n).toList

theorem cont_none {s : ByteArray} (hs : s.size ≤ 281474976710656) (h : NoAddr s) : ∀ area, 1 ≤ area → area ≤ 3 → Cont E1 s area := by
  intro area h1 h3
  by_cases hz : (s.size : Int) < 3
  · exact .inl hz
  · refine .inr ⟨hz, ?_⟩
    cases hd : ((s.extract 0 2).toList == (head area).toList) with
    | false => exact .inl rfl
    | true =>
      refine .inr ⟨rfl, S35, rfl, ?_⟩
      have hr : (s.extract 2 s.size).size ≤ 281474976710656 := by simp [ByteArray.size_extract]; omega
      have hcut := cut2 s (by omega)
      have hhd : (s.extract 0 2).toList = [37, letter area.toNat] := by rw [← head_list h1 h3]; simpa using hd
      generalize s.extract 2 s.size = r at hr hcut ⊢
      rcases hat : Lib.atoiAll r.data.toList with v | _ | _
      · right
        refine ⟨v, S36, rfl, by simp [S35, hr, hat], ?_⟩
        cases hp : isP area v with
        | false => left; simp [S36, hp]
        | true =>
          right
          have hpv := isP_true hp
          refine ⟨by simp [S36, hp], S37, ⟨(dig v.toNat).toArray⟩, rfl, by simp [S37, hpv], ?_⟩
          rw [beq_eq_false_iff_ne]
          intro he
          refine h area.toNat v.toNat (by omega) (by omega) (by omega) ?_
          rw [hcut, hhd, ← he, txt_list, Lib.toList_data]
          simp
      · left; exact ⟨144, by simp [S35, hr, hat]⟩
      · left; exact ⟨144, by simp [S35, hr, hat]⟩

theorem gives8_none {w : World} (hV : Vars w) {s : ByteArray} (hs : s.size ≤ 281474976710656) (h : NoAddr s) : Gives 8 #[.string s] w (.tuple #[.int .i64 0, .int .i64 0, .int .i64 4]) := by
  obtain ⟨ms, hi⟩ := und81
  exact gives_of (N := 1000) (n := 0) rfl (E1_ok hV) E1_ex (parse8_none (ms := ms) (fn0 Tryz.func8 rfl) (by omega) und9 hi nil81 (cont_none hs h)) (.cons (.v _) .nil) (tup_inv rfl)

theorem isP_nat {a n : Nat} (h1 : 1 ≤ a) (h3 : a ≤ 3) (hn : n < 64) : isP (a : Int) (n : Int) = true := by
  unfold isP
  simp only [Bool.and_eq_true, decide_eq_true_eq]
  omega

theorem gives8_some {w : World} (hV : Vars w) {a n : Nat} (h1 : 1 ≤ a) (h3 : a ≤ 3) (hn : n < 64) {s : ByteArray} (hs : s.toList = (txt a n).toList) : Gives 8 #[.string s] w (.tuple #[.int .i64 (a : Int), .int .i64 (n : Int), .int .i64 0]) := by
  obtain ⟨ms, hi⟩ := und81
  have hl : s.toList = 37 :: letter a :: dig n := by rw [hs, txt_list]
  have hdl : 1 ≤ (dig n).length ∧ (dig n).length ≤ 2 := by unfold dig; split <;> simp
  have hsz : s.size = 2 + (dig n).length := by
    have : s.toList.length = s.size := by rw [Lib.toList_data]; rfl
    rw [← this, hl]; simp; omega
  have hcut := cut2 s (by omega)
  have hx : (s.extract 0 2).toList.length = 2 := by
    rw [Lib.toList_data]
    obtain ⟨⟨l⟩⟩ := s
    simp [ByteArray.size] at hsz
    simp [ByteArray.data_extract]; omega
  have hparts : (s.extract 0 2).toList = [37, letter a] ∧ (s.extract 2 s.size).toList = dig n := by
    rw [hl] at hcut
    have := List.append_inj (s₁ := [37, letter a]) (t₁ := dig n) (by simpa using hcut) (by simpa using hx.symm)
    exact ⟨this.1.symm, this.2.symm⟩
  obtain ⟨hp1, hp2⟩ := hparts
  have hnsz : ¬ (s.size : Int) < 3 := by omega
  have hc : ∀ b : Int, 1 ≤ b → b < (a : Int) → Cont E1 s b := fun b b1 b3 => by
    refine .inr ⟨hnsz, .inl ?_⟩
    rw [hp1, head_list b1 (by omega), beq_eq_false_iff_ne]
    intro he
    simp at he
    have := letter_inj a (by omega) b.toNat (by omega) h1 (by omega) he
    omega
  have hrs : (s.extract 2 s.size).size ≤ 281474976710656 := by
    have : (s.extract 2 s.size).toList.length = (s.extract 2 s.size).size := by rw [Lib.toList_data]; rfl
    rw [← this, hp2]; omega
  refine gives_of (N := 1000) (n := 0) rfl (E1_ok hV) E1_ex (parse8_some (ms := ms) (n := (n : Int)) (area := (a : Int)) (fn0 Tryz.func8 rfl) (by omega) und9 hi nil81 hc (fun fr f1 f2 f3 => ?_) (by omega) (by omega)) (.cons (.v _) .nil) (tup_inv rfl)
  refine body8_found (S := S35) (S36 := S36) (S37 := S37) (u := ⟨(dig n).toArray⟩) ⟨by omega, by omega⟩ und9 nil81 f1 f2 f3 hnsz ?_ rfl ?_ rfl ?_ rfl ?_ ?_
  · rw [hp1, head_list (by omega) (by omega)]; simp
  · generalize s.extract 2 s.size = r at hrs hp2 ⊢
    rw [Lib.toList_data] at hp2
    simp [S35, hrs, hp2, dig_atoi n hn]
  · simp [S36, isP_nat h1 h3 hn]
  · have h0 : (0 : Int) ≤ (n : Int) ∧ (n : Int) < 64 := by omega
    simp only [S37, h0, and_self, if_true, Int.toNat_natCast]
  · rw [hp2, Lib.toList_data]; simp

theorem S13_spec (i j : Int) (h1 : 1 ≤ i) (h3 : i ≤ 3) (j0 : 0 ≤ j) (j1 : j < 64) : S13 [.i i, .i j] = some (.v (.string (txt i.toNat j.toNat))) := by
  have : isP i j = true := by
    unfold isP
    simp only [Bool.and_eq_true, decide_eq_true_eq]
    omega
  simp [S13, this]

theorem gives9_none {w : World} (hV : Vars w) {s : ByteArray} (h : NoAddr s) : Gives 9 #[.string s] w (.tuple #[.int .i64 0, .int .i64 0, .bool false]) :=
  gives_of (N := 1000) (n := 0) rfl (E1_ok hV) E1_ex (parse9_none (S := S13) (txt := fun i j => txt i.toNat j.toNat) (fn0 Tryz.func9 rfl) (by omega) rfl fun i j h1 h3 j0 j1 => ⟨S13_spec i j h1 h3 j0 j1, by
    rw [beq_eq_false_iff_ne]; exact h _ _ (by omega) (by omega) (by omega)⟩) (.cons (.v _) .nil) (tup_inv rfl)

theorem gives9_some {w : World} (hV : Vars w) {a n : Nat} (h1 : 1 ≤ a) (h3 : a ≤ 3) (hn : n < 64) {s : ByteArray} (hs : s.toList = (txt a n).toList) : Gives 9 #[.string s] w (.tuple #[.int .i64 (a : Int), .int .i64 (n : Int), .bool true]) :=
  gives_of (N := 1000) (n := 0) rfl (E1_ok hV) E1_ex (parse9_some (S := S13) (area := (a : Int)) (n := (n : Int)) (txt := fun i j => txt i.toNat j.toNat) (fn0 Tryz.func9 rfl) (by omega) (by omega) (by omega) (by omega) (by omega) rfl S13_spec (fun i j i1 i3 j0 j1 hne => by
    rw [beq_eq_false_iff_ne, hs]
    intro he
    have := txt_inj h1 h3 hn (by omega) (by omega) (by omega) he
    omega) (by rw [hs]; simp)) (.cons (.v _) .nil) (tup_inv rfl)

/-- Text, out of range. -/
theorem text10_out {K : Kont} {N : Nat} {σ : St} {a : AFr} {x n : Int} (hp : isP x n = false) (hn : a.n = 18) (h0 : a.get 0 = .i x) (h1 : a.get 1 = .i n) :
    ∃ a', codeA K E1 N none (fAt Tryz.f10 []) a σ = some (.ret, a', σ) ∧ a'.get 4 = .v (.string ⟨#[]⟩) ∧ a'.get 5 = .i 6 ∧ a'.df = a.df := by
  have hS : E1.sum 36 = some S36 := rfl
  have h36 : S36 [.i x, .i n] = some (.b false) := by simp [S36, hp]
  have hnot : E1.und 4 = some .bool := by show Tryz.prog.underlying 4 = _; kernel_rfl
  simp only [fAt, cAt, Tryz.f10]
  simp [code_region, code_seq, code_cond, code_skip, code_ret, opsA, oneA, wantedA, opA, kindOf, readA, uponA, AFr.put, get_set, n_set, hn, opd, h0, h1, df_set, writeA, callee?, callA, hS, h36, un_not]

end Go.Proofs.YtfmbpdacdopkgaaGreatDoor
