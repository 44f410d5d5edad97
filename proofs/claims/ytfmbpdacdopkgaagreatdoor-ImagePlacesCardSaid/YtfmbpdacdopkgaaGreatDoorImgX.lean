/- The law ImagePlaces, evaluated. Conditions: the two sentinels of strconv hold errors; the text is no longer than 2^48. -/
import Derived.Test.YtfmbpdacdopkgaaGreatDoorImgW
import Derived.Test.YtfmbpdacdopkgaaGreatDoorImgA2
namespace Go.Proofs.YtfmbpdacdopkgaaGreatDoor
set_option maxRecDepth 100000
open Go Go.Ai
open Go.RowKit (Below)

open Classical in
noncomputable def pos (s : ByteArray) : Option (Nat × Nat) := if h : ∃ p : Nat × Nat, 1 ≤ p.1 ∧ p.1 ≤ 3 ∧ p.2 < 64 ∧ s.toList = (txt p.1 p.2).toList then some (Classical.choose h) else none

theorem pos_some {s : ByteArray} {p : Nat × Nat} (h : pos s = some p) : 1 ≤ p.1 ∧ p.1 ≤ 3 ∧ p.2 < 64 ∧ s.toList = (txt p.1 p.2).toList := by
  unfold pos at h
  split at h
  · rename_i hx; cases h; exact Classical.choose_spec hx
  · cases h
theorem pos_none {s : ByteArray} (h : pos s = none) : NoAddr s := by
  unfold pos at h
  split at h
  · cases h
  · rename_i hx; exact fun a n h1 h3 hn e => hx ⟨(a, n), h1, h3, hn, e⟩
theorem pos_txt {a n : Nat} (h1 : 1 ≤ a) (h3 : a ≤ 3) (hn : n < 64) : pos (txt a n) = some (a, n) := by
  cases h : pos (txt a n) with
  | none => exact absurd rfl (pos_none h a n h1 h3 hn)
  | some p =>
    obtain ⟨p1, p2⟩ := p
    obtain ⟨q1, q2, q3, q4⟩ := pos_some h
    obtain ⟨rfl, rfl⟩ := txt_inj h1 h3 hn q1 q2 q3 q4
    rfl

noncomputable def S8 : List AV → Option AV
  | [.v (.string s)] => if s.size ≤ 281474976710656 then (match pos s with
    | some p => some (.tup [.i (p.1 : Int), .i (p.2 : Int), .i 0])
    | none => some (.tup [.i 0, .i 0, .i 4])) else none
  | _ => none
noncomputable def S9 : List AV → Option AV
  | [.v (.string s)] => match pos s with
    | some p => some (.tup [.i (p.1 : Int), .i (p.2 : Int), .b true])
    | none => some (.tup [.i 0, .i 0, .b false])
  | _ => none
def S10 : List AV → Option AV
  | [.v (.int .i64 a), .v (.int .i64 n)] => if isP a n then some (.tup [.v (.string (txt a.toNat n.toNat)), .i 0]) else some (.tup [.v (.string ⟨#[]⟩), .i 6])
  | _ => none
def S12 : List AV → Option AV
  | [] => some (.b true)
  | _ => none

noncomputable def sumB (f : FuncId) : Option (List AV → Option AV) :=
  if f = 8 then some S8 else if f = 9 then some S9 else if f = 10 then some S10 else if f = 11 then some S36 else if f = 12 then some S12 else if f = 13 then some S13 else none
noncomputable def E2 : Env := envOf Tryz.prog (fun _ => none) sumB ext

theorem gives12 (w : World) : Gives 12 #[] w (.bool true) := calls_true (E0_ok w) E0_ex awake_eval .nil

theorem gives10_out {w : World} (hV : Vars w) {x n : Int} (hp : isP x n = false) : Gives 10 #[.int .i64 x, .int .i64 n] w (.tuple #[.string ⟨#[]⟩, .int .i64 6]) := by
  have hn : (frame0 Tryz.f10 [.i x, .i n]).n = 18 := rfl
  obtain ⟨a', h1, h2, h3, h4⟩ := text10_out (K := evalK E1 10 0) (N := 10) (σ := ⟨.nil, 0⟩) (a := frame0 Tryz.f10 [.i x, .i n]) hp hn rfl rfl
  refine gives_of (N := 10) (n := 0) rfl (E1_ok hV) E1_ex (call_ret (fn0 Tryz.func10 rfl) rfl h1 (by rw [h4]; rfl) (x := .tup [.v (.string ⟨#[]⟩), .i 6]) ?_) (.cons (.v _) (.cons (.v _) .nil)) (tup_inv rfl)
  simp [resultA, resultsA, Tryz.f10, h2, h3]

theorem tup3 {W : World} {ρ : Asg} {x y z : Value} : VRel W ρ (.tup [.v x, .v y, .v z]) (.tuple #[x, y, z]) := .tup (.cons (.v _) (.cons (.v _) (.cons (.v _) .nil)))
theorem tup2 {W : World} {ρ : Asg} {x y : Value} : VRel W ρ (.tup [.v x, .v y]) (.tuple #[x, y]) := .tup (.cons (.v _) (.cons (.v _) .nil))

theorem sum8 {W : World} (hV : Vars W) : SumOk W 8 S8 := by
  intro args x hx ρ σ w cargs hI hv
  match args, hx with
  | [.v (.string s)], hx =>
    obtain rfl := one_str hv
    simp only [S8] at hx
    split at hx
    · rename_i hlim
      have hV' := hV.below hI.below
      cases hp : pos s with
      | none => rw [hp] at hx; cases hx; exact (gives8_none hV' hlim (pos_none hp)).mono fun e w' ⟨he, hb⟩ => ⟨_, he, tup3, hb⟩
      | some p =>
        rw [hp] at hx; cases hx
        obtain ⟨q1, q2, q3, q4⟩ := pos_some hp
        exact (gives8_some hV' q1 q2 q3 q4).mono fun e w' ⟨he, hb⟩ => ⟨_, he, tup3, hb⟩
    · cases hx
theorem sum9 {W : World} (hV : Vars W) : SumOk W 9 S9 := by
  intro args x hx ρ σ w cargs hI hv
  match args, hx with
  | [.v (.string s)], hx =>
    obtain rfl := one_str hv
    simp only [S9] at hx
    have hV' := hV.below hI.below
    cases hp : pos s with
    | none => rw [hp] at hx; cases hx; exact (gives9_none hV' (pos_none hp)).mono fun e w' ⟨he, hb⟩ => ⟨_, he, tup3, hb⟩
    | some p =>
      rw [hp] at hx; cases hx
      obtain ⟨q1, q2, q3, q4⟩ := pos_some hp
      exact (gives9_some hV' q1 q2 q3 q4).mono fun e w' ⟨he, hb⟩ => ⟨_, he, tup3, hb⟩
theorem sum10 {W : World} (hV : Vars W) : SumOk W 10 S10 := by
  intro args x hx ρ σ w cargs hI hv
  match args, hx with
  | [.v (.int .i64 a), .v (.int .i64 n)], hx =>
    obtain rfl := two_int hv
    simp only [S10] at hx
    split at hx
    · rename_i hp
      have hn := isP_true hp
      cases hx
      have := gives10 w (a := a.toNat) (n := n.toNat) (by omega) (by omega) (by omega)
      rw [show ((n.toNat : Nat) : Int) = n by omega, show ((a.toNat : Nat) : Int) = a by omega] at this
      exact this.mono fun e w' ⟨he, hb⟩ => ⟨_, he, tup2, hb⟩
    · rename_i hp
      cases hx
      exact (gives10_out (hV.below hI.below) (by simpa using hp)).mono fun e w' ⟨he, hb⟩ => ⟨_, he, tup2, hb⟩
theorem sum11 {W : World} : SumOk W 11 S36 := by
  intro args x hx ρ σ w cargs hI hv
  match args, hx with
  | [.v (.int .i64 a), .v (.int .i64 n)], hx =>
    obtain rfl := two_int hv
    cases hx
    exact (gives11 w a n).mono fun e w' ⟨he, hb⟩ => ⟨_, he, .v _, hb⟩
theorem sum12 {W : World} : SumOk W 12 S12 := by
  intro args x hx ρ σ w cargs hI hv
  match args, hx with
  | [], hx =>
    cases hx
    have : cargs = #[] := by
      obtain ⟨l⟩ := cargs
      cases hv
      rfl
    subst this
    exact (gives12 w).mono fun e w' ⟨he, hb⟩ => ⟨_, he, .v _, hb⟩

theorem E2_ok {w : World} (hV : Vars w) : EnvOk E2 w := by
  refine env_ok order noNum (fun _ _ h => by cases h) (fun f S args x hS hx ρ σ w' cargs hI hv => ?_) (ext_spec w)
  unfold sumB at hS
  split at hS
  · rename_i h; subst h; cases hS; exact sum8 hV args x hx ρ σ w' cargs hI hv
  · split at hS
    · rename_i h; subst h; cases hS; exact sum9 hV args x hx ρ σ w' cargs hI hv
    · split at hS
      · rename_i h; subst h; cases hS; exact sum10 hV args x hx ρ σ w' cargs hI hv
      · split at hS
        · rename_i h; subst h; cases hS; exact sum11 args x hx ρ σ w' cargs hI hv
        · split at hS
          · rename_i h; subst h; cases hS; exact sum12 args x hx ρ σ w' cargs hI hv
          · split at hS
            · rename_i h; subst h; cases hS; exact sum13 args x hx ρ σ w' cargs hI hv
            · cases hS

theorem E2_ex : ∀ f S, E2.sum f = some S → ∃ fn, E2.fn f = some fn := by
  intro f S h
  have h : sumB f = some S := h
  unfold sumB at h
  split at h
  · rename_i hf; subst hf; exact ⟨_, fn0 Tryz.func8 rfl⟩
  · split at h
    · rename_i hf; subst hf; exact ⟨_, fn0 Tryz.func9 rfl⟩
    · split at h
      · rename_i hf; subst hf; exact ⟨_, fn0 Tryz.func10 rfl⟩
      · split at h
        · rename_i hf; subst hf; exact ⟨_, fn0 Tryz.func11 rfl⟩
        · split at h
          · rename_i hf; subst hf; exact ⟨_, fn0 Tryz.func12 rfl⟩
          · split at h
            · rename_i hf; subst hf; exact ⟨_, fn0 Tryz.func13 rfl⟩
            · cases h

theorem bool4 (E : Env) (hE : E.P = Tryz.prog) (xo yo : Operand) (a b : Bool) : eqA E .neq 4 xo yo (.v (.bool a)) (.v (.bool b)) = some (.b (a != b)) := by
  have h : (match runA Tryz.prog (binOp .neq 4 (.bool a) (.bool b)) with | some (.bool c) => c == (a != b) | _ => false) = true := by cases a <;> cases b <;> kernel_rfl
  simp only [eqA, AV.exact?, eqGuard, hE]
  split at h
  · rename_i c hc
    simp at h
    subst h
    simpa using hc
  · cases h

theorem law3 {K : Kont} {N : Nat} {a : AFr} {s : ByteArray} {x n : Int} (hs : s.size ≤ 281474976710656) (hn : a.n = 109) (h0 : a.get 0 = .v (.string s)) (h1 : a.get 1 = .v (.agg #[.int .i64 x, .int .i64 n])) :
    ∃ a' σ', codeA K E2 N none (fAt Tryz.f3 []) a start = some (.ret, a', σ') ∧ a'.get 4 = .b true ∧ a'.df = a.df := by
  have hu22 : E2.und 22 = some (.array 2 3) := by show Tryz.prog.underlying 22 = _; kernel_rfl
  have hu3 : E2.und 3 = some (.int .i64) := by show Tryz.prog.underlying 3 = _; kernel_rfl
  have hs3 : E2.size 3 = some 1 := by show (Tryz.prog.info? 3).map _ = _; kernel_rfl
  have ha3 : E2.agg 3 = some false := by simp [Env.agg, hu3]
  have e8 : E2.sum 8 = some S8 := rfl
  have e9 : E2.sum 9 = some S9 := rfl
  have e10 : E2.sum 10 = some S10 := rfl
  have e11 : E2.sum 11 = some S36 := rfl
  have e12 : E2.sum 12 = some S12 := rfl
  have e13 : E2.sum 13 = some S13 := rfl
  have hcell : (AV.v (.agg #[.int .i64 x, .int .i64 n])).cells? = some [.i x, .i n] := rfl
  have hnx : start.next = 0 := rfl
  have hget : (start.add (.cells [.i x, .i n] 0 0)).get 0 = some (.cells [.i x, .i n] 0 0) := St.get_add_same start _
  generalize hσ : start.add (.cells [.i x, .i n] 0 0) = σ₁ at hget
  have hbool := fun xo yo p q => bool4 E2 rfl xo yo p q
  have h12 : S12 [] = some (.b true) := rfl
  have h11 : S36 [.i x, .i n] = some (.b (isP x n)) := rfl
  have step : ∀ (p q : Int) (ok : Bool) (e : Int), S8 [.v (.string s)] = some (.tup [.i p, .i q, .i e]) → S9 [.v (.string s)] = some (.tup [.i p, .i q, .b ok]) → (e = 0 ∧ ok = true ∨ e = 4 ∧ ok = false) →
      ∃ a' σ', codeA K E2 N none (fAt Tryz.f3 []) a start = some (.ret, a', σ') ∧ a'.get 4 = .b true ∧ a'.df = a.df := by
    intro p q ok e h8 h9 he
    simp only [fAt, cAt, Tryz.f3]
    cases hpl : isP x n with
    | false =>
      have h10 : S10 [.i x, .i n] = some (.tup [.v (.string ⟨#[]⟩), .i 6]) := by simp [S10, hpl]
      rw [hpl] at h11
      rcases he with ⟨rfl, rfl⟩ | ⟨rfl, rfl⟩ <;>
      simp [code_region, code_seq, code_cond, code_skip, code_ret, opsA, oneA, wantedA, opA, kindOf, readA, uponA, AFr.put, get_set, n_set, hn, opd, h0, h1, df_set, allocA, hcell, hnx, hσ, writeA, callee?, callA, e8, e9, e10, e11, e12, h8, h9, h10, h11, h12,
        ne_int, eq_int, eq_str, un_not, hbool, indexAddrA, hu22, hs3, loadA, ha3, rdCells, hget]
    | true =>
      have hr := isP_true hpl
      have h10 : S10 [.i x, .i n] = some (.tup [.v (.string (txt x.toNat n.toNat)), .i 0]) := by simp [S10, hpl]
      have h13 : S13 [.i x, .i n] = some (.v (.string (txt x.toNat n.toNat))) := by simp [S13, hpl]
      have hsz : (txt x.toNat n.toNat).size ≤ 281474976710656 := by
        have : (txt x.toNat n.toNat).size = (txt x.toNat n.toNat).toList.length := by rw [Lib.toList_data]; rfl
        rw [this, txt_list]
        have : (dig n.toNat).length ≤ 2 := by unfold dig; split <;> simp
        simp only [List.length_cons]; omega
      have h8' : S8 [.v (.string (txt x.toNat n.toNat))] = some (.tup [.i x, .i n, .i 0]) := by
        have e1 : ((x.toNat : Nat) : Int) = x := by omega
        have e2 : ((n.toNat : Nat) : Int) = n := by omega
        simp only [S8, hsz, if_true, pos_txt (a := x.toNat) (n := n.toNat) (by omega) (by omega) (by omega), e1, e2]
      rw [hpl] at h11
      generalize txt x.toNat n.toNat = u at h10 h13 h8'
      rcases he with ⟨rfl, rfl⟩ | ⟨rfl, rfl⟩ <;>
      simp [code_region, code_seq, code_cond, code_skip, code_ret, opsA, oneA, wantedA, opA, kindOf, readA, uponA, AFr.put, get_set, n_set, hn, opd, h0, h1, df_set, allocA, hcell, hnx, hσ, writeA, callee?, callA, e8, e9, e10, e11, e12, e13, h8, h9, h10, h11, h12, h13, h8',
        ne_int, eq_int, eq_str, un_not, hbool, indexAddrA, hu22, hs3, loadA, ha3, rdCells, hget]
  cases hp : pos s with
  | none => exact step 0 0 false 4 (by simp only [S8, hs, if_true, hp]) (by simp only [S9, hp]) (.inr ⟨rfl, rfl⟩)
  | some p => exact step p.1 p.2 true 0 (by simp only [S8, hs, if_true, hp]) (by simp only [S9, hp]) (.inl ⟨rfl, rfl⟩)

/-- **The law: at every text and every place it returns true, and makes new things alone.** -/
theorem gives3 {w : World} (hV : Vars w) {s : ByteArray} {x n : Int} (hs : s.size ≤ 281474976710656) : Gives 3 #[.string s, .agg #[.int .i64 x, .int .i64 n]] w (.bool true) := by
  have hn : (frame0 Tryz.f3 [.v (.string s), .v (.agg #[.int .i64 x, .int .i64 n])]).n = 109 := rfl
  obtain ⟨a', σ', h1, h2, h3⟩ := law3 (K := evalK E2 10 0) (N := 10) (a := frame0 Tryz.f3 [.v (.string s), .v (.agg #[.int .i64 x, .int .i64 n])]) (x := x) (n := n) hs hn rfl rfl
  refine gives_of (N := 10) (n := 0) rfl (E2_ok hV) E2_ex (call_ret (fn0 Tryz.func3 rfl) rfl h1 (by rw [h3]; rfl) (x := .b true) ?_) (.cons (.v _) (.cons (.v _) .nil)) v_inv
  simp [resultA, resultsA, Tryz.f3, h2]
end Go.Proofs.YtfmbpdacdopkgaaGreatDoor
