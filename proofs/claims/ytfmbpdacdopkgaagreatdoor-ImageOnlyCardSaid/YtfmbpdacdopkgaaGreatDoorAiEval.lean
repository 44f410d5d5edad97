/- The abstract interpreter: deferred calls; the soundness of the evaluation. Conditions: the environment tells the truth of the program; regions of open order are sound. -/
import Derived.Test.YtfmbpdacdopkgaaGreatDoorAiCall
namespace Go.Ai
open Go.RowKit (Below)

section
variable {E : Env} {w0 : World} {ρ : Asg} {σ : St} {w : World} {K : Kont}

/-- How an exit is told. -/
def XRel (w0 : World) (ρ : Asg) : AExit → Exit → Prop
  | .normal, e => e = .normal
  | .exit id, e => e = .exit id
  | .goto l, e => e = .goto l
  | .ret, e => e = .ret
  | .panic x, e => ∃ y, e = .panic [{ v := y, recovered := false }] ∧ VRel w0 ρ x y

/-- How a deferred function's code is left: the frame below may have been turned by recover. -/
def ExitS (w0 : World) (ρ : Asg) (σ : St) (w : World) (c₀ : Frame) (cs : List Frame) (r : AExit × AFr × AMode × St) (e : Exit) (c : Act) (cs' : List Frame) (w' : World) : Prop :=
  ∃ ρ' u', cs' = { c₀ with mode := u' } :: cs ∧ Step w0 ρ σ w ρ' r.2.2.2 w' ∧ ARel w0 ρ' r.2.1 c ∧ ModeRel w0 ρ' r.2.2.1 u' ∧ XRel w0 ρ' r.1 e

theorem ExitS.trans {ρ₁ : Asg} {σ₁ : St} {w₁ : World} (hI : Inv w0 ρ σ w) (h : Step w0 ρ σ w ρ₁ σ₁ w₁) {c₀ : Frame} {cs cs' : List Frame} {r : AExit × AFr × AMode × St} {e : Exit} {c : Act} {w' : World}
    (k : ExitS w0 ρ₁ σ₁ w₁ c₀ cs r e c cs' w') : ExitS w0 ρ σ w c₀ cs r e c cs' w' := by
  obtain ⟨ρ', u', h1, s, h2⟩ := k
  exact ⟨ρ', u', h1, h.trans hI s, h2⟩

theorem ExitOk.exitS {r : AExit × AFr × St} {m : AMode} {u : FrameMode} {c₀ : Frame} {cs : List Frame} {e : Exit} {c : Act} {w' : World} (hm : ModeRel w0 ρ m u) (k : ExitOk w0 ρ σ w r e c w') :
    ExitS w0 ρ σ w c₀ cs (r.1, r.2.1, m, r.2.2) e c ({ c₀ with mode := u } :: cs) w' := by
  obtain ⟨ρ', s, hA, he⟩ := k
  refine ⟨ρ', u, rfl, s, hA, hm.mono s.ext, ?_⟩
  show XRel w0 ρ' r.1 e
  unfold XRel
  split <;> simp_all

theorem opA_quiet (hE : EnvOk E w0) (hI : Inv w0 ρ σ w) {a : AFr} {c : Act} (hF : FRel w0 ρ a c.tmps) {o : Oper} {x : AV} {σ' : St} (hk : kindOf E o ≠ .w) (h : opA E a σ o = some (.val x, σ')) :
    ∃ y w' ρ', (execOp c.eval o).run E.P w = .ok (.value y) w' ∧ Step w0 ρ σ w ρ' σ' w' ∧ VRel w0 ρ' x y := by
  unfold opA at h
  split at h
  · simp only [Option.map_eq_some_iff] at h
    obtain ⟨x, hx, h⟩ := h
    cases h
    obtain ⟨y, hy, hr⟩ := readA_sim hE hI hF hx
    exact ⟨y, w, ρ, hy, Step.refl hI, hr⟩
  · simp only [Option.map_eq_some_iff] at h
    obtain ⟨⟨x, f⟩, hx, h⟩ := h
    cases h
    obtain ⟨y, obj, wd, L, hwd, hrun, hL, hg, hnew⟩ := allocA_sim hE hF hx w
    have hno : ρ σ.next 0 = none := (hI.fresh σ.next (Nat.le_refl _)).2 0
    obtain ⟨h1, h2⟩ := hnew σ.next hno
    have hst : Step w0 ρ σ w (upd ρ σ.next 0 L) (σ.add x) (wd.alloc obj) := by
      rcases hwd with rfl | rfl
      · exact Step.add hI x obj L hL hg h1
      · exact (Step.drew hI).trans hI (Step.add hI.drew x obj L hL hg h1)
    exact ⟨y, _, _, hrun, hst, h2⟩
  · rename_i hw
    exact absurd hw hk

theorem opsS_sim (hE : EnvOk E w0) {ops : Array Oper} {c₀ : Frame} {cs : List Frame} (Q : Exit → Act → List Frame → World → Prop) :
    ∀ (suf pre : List Oper) (a : AFr) (m : AMode) (σ : St) (r : AExit × AFr × AMode × St), ops.toList = pre ++ suf → opsS E ops suf a m σ = some r →
    ∀ (ρ : Asg) (c : Act) (u : FrameMode) (w : World), Inv w0 ρ σ w → ARel w0 ρ a c → ModeRel w0 ρ m u → (∀ e c' cs' w', ExitS w0 ρ σ w c₀ cs r e c' cs' w' → Q e c' cs' w') →
    wpOpsSIn Fence.wide 0 E.P ops Q (List.range' pre.length suf.length) c ({ c₀ with mode := u } :: cs) w
  | [], pre, a, m, σ, r, _, h, ρ, c, u, w, hI, hA, hm, hQ => by
    simp only [opsS] at h; cases h
    exact hQ _ _ _ _ ⟨ρ, u, rfl, Step.refl hI, hA, hm, rfl⟩
  | o :: suf, pre, a, m, σ, r, hl, h, ρ, c, u, w, hI, hA, hm, hQ => by
    have hi : ops[pre.length]? = some o := by
      rw [← Array.getElem?_toList, hl]; simp
    simp only [List.length_cons, List.range'_succ, wpOpsSIn, hi]
    refine ⟨fun _ _ => trivial, ?_⟩
    have next : ∀ (x : AV) (y : Value) (a' : AFr) (m' : AMode) (u' : FrameMode) (σ' : St) (ρ' : Asg) (w' : World), Step w0 ρ σ w ρ' σ' w' → ModeRel w0 ρ' m' u' → VRel w0 ρ' x y → a.put o.dst x = some a' →
        opsS E ops suf a' m' σ' = some r → wpOpsSIn Fence.wide 0 E.P ops Q (List.range' (pre.length + 1) suf.length) (c.put o.dst y) ({ c₀ with mode := u' } :: cs) w' := by
      intro x y a' m' u' σ' ρ' w' s hm' hv hp hr
      have := opsS_sim hE Q suf (pre ++ [o]) a' m' σ' r (by simp [hl]) hr ρ' (c.put o.dst y) u' w' s.inv ((hA.mono s.ext).put hp hv) hm' (fun e c' cs' w' k => hQ e c' cs' w' (k.trans hI s))
      simpa using this
    simp only [opsS] at h
    split at h
    · rename_i hwa
      rw [if_neg (by simp [wanted_sim hA.tm hwa])]
      split at h
      · rename_i a' hp
        exact next _ _ a' m u σ ρ w (Step.refl hI) hm (.v undef) hp h
      · cases h
    · rename_i hwa
      rw [if_pos (wanted_sim hA.tm hwa)]
      split at h
      · rename_i c' _ ho
        have hrun : (execOp c.eval o).run E.P w = .ok .recover w := by
          rw [execOp, ho]; rfl
        rw [hrun]
        simp only
        split at h
        · rename_i x
          obtain ⟨y, rfl, hy⟩ := hm
          split at h
          · rename_i a' hp
            simp only [recoverD]
            exact next x y a' (.pan x true) _ σ ρ w (Step.refl hI) ⟨y, rfl, hy⟩ hy hp h
          · cases h
        · rename_i hnp
          have hrec : recoverD ({ c₀ with mode := u } :: cs) = none := by
            cases m with
            | ret => rw [show u = .returning from hm]; rfl
            | pan x b =>
              obtain ⟨y, rfl, _⟩ := hm
              cases b with
              | true => rfl
              | false => exact absurd rfl (hnp x)
          rw [hrec]
          split at h
          · rename_i a' hp
            exact next _ _ a' m u σ ρ w (Step.refl hI) hm (.v .nilIface) hp h
          · cases h
      · split at h
        · cases h
        · rename_i hk
          split at h
          · rename_i x σ' hop
            obtain ⟨y, w', ρ', hrun, s, hv⟩ := opA_quiet hE hI hA.tm hk hop
            rw [hrun]
            split at h
            · rename_i a' hp
              exact next x y a' m u σ' ρ' w' s (hm.mono s.ext) hv hp h
            · cases h
          · cases h
    · cases h

theorem codeS_flat (hE : EnvOk E w0) (hex : ∀ f S, E.sum f = some S → ∃ fn, E.fn f = some fn) (hK : KontOk E w0 K) (hD : RegionOk E w0 K) {N : Nat} {c₀ : Frame} {cs : List Frame} {cd : Code} {a : AFr} {m : AMode} {r : AExit × AFr × AMode × St}
    (h : (codeA K E N none cd a σ).map (fun r => (r.1, r.2.1, m, r.2.2)) = some r) {c : Act} {u : FrameMode} (hI : Inv w0 ρ σ w) (hA : ARel w0 ρ a c) (hm : ModeRel w0 ρ m u) :
    cd.wpSIn Fence.wide 0 E.P (ExitS w0 ρ σ w c₀ cs r) c ({ c₀ with mode := u } :: cs) w := by
  simp only [Option.map_eq_some_iff] at h
  obtain ⟨r₁, h, rfl⟩ := h
  exact wpSIn_of_wpIn rfl (wpIn_mono (F := FF none) (code_sim hE hex hK hD (rl := none) cd a σ r₁ h ρ c w hI hA rfl) fun e c' w' k => k.exitS hm)

theorem wpSIn_mono' {F : Fence} {n : Nat} {P : Program} {c : Code} {Q Q' : Exit → Act → List Frame → World → Prop} {a : Act} {cs : List Frame} {w : World} (h : c.wpSIn F n P Q a cs w) (hq : ∀ e a cs w, Q e a cs w → Q' e a cs w) : c.wpSIn F n P Q' a cs w :=
  fun b k h1 h2 h3 h4 => let ⟨e, a', cs', w', l, q, r⟩ := h b k h1 h2 h3 h4; ⟨e, a', cs', w', l, hq _ _ _ _ q, r⟩

theorem codeS_sim (hE : EnvOk E w0) (hex : ∀ f S, E.sum f = some S → ∃ fn, E.fn f = some fn) (hK : KontOk E w0 K) (hD : RegionOk E w0 K) {N : Nat} {c₀ : Frame} {cs : List Frame} :
    ∀ (cd : Code) (a : AFr) (m : AMode) (σ : St) (r : AExit × AFr × AMode × St), codeS K E N cd a m σ = some r → ∀ (ρ : Asg) (c : Act) (u : FrameMode) (w : World), Inv w0 ρ σ w → ARel w0 ρ a c → ModeRel w0 ρ m u →
      cd.wpSIn Fence.wide 0 E.P (ExitS w0 ρ σ w c₀ cs r) c ({ c₀ with mode := u } :: cs) w
  | .seq x y, a, m, σ, r, h, ρ, c, u, w, hI, hA, hm => by
    refine wpSIn_seq ?_
    simp only [codeS] at h
    cases hx : codeS K E N x a m σ with
    | none => rw [hx] at h; simp at h
    | some r₁ =>
      have h1 := codeS_sim hE hex hK hD (c₀ := c₀) (cs := cs) x a m σ r₁ hx ρ c u w hI hA hm
      rw [hx] at h
      refine wpSIn_mono' h1 fun e c' cs' w' k => ?_
      obtain ⟨e₁, a₁, m₁, σ₁⟩ := r₁
      obtain ⟨ρ', u', rfl, s, hA', hm', he⟩ := k
      cases e₁ with
      | normal =>
        rw [show e = .normal from he]
        simp only at h
        exact wpSIn_mono' (codeS_sim hE hex hK hD y a₁ m₁ σ₁ r h ρ' c' u' w' s.inv hA' hm') fun e c'' cs'' w'' k => k.trans hI s
      | exit id => rw [show e = .exit id from he]; cases h; exact ⟨ρ', u', rfl, s, hA', hm', rfl⟩
      | goto l => rw [show e = .goto l from he]; cases h; exact ⟨ρ', u', rfl, s, hA', hm', rfl⟩
      | ret => rw [show e = .ret from he]; cases h; exact ⟨ρ', u', rfl, s, hA', hm', rfl⟩
      | panic x => obtain ⟨y, rfl, hy⟩ := he; cases h; exact ⟨ρ', u', rfl, s, hA', hm', y, rfl, hy⟩
  | .cond q x y, a, m, σ, r, h, ρ, c, u, w, hI, hA, hm => by
    simp only [codeS] at h
    have hq := opd_rel hE hA.tm q
    split at h
    · rename_i hv
      rw [hv] at hq
      generalize hc : c.eval q = v at hq
      cases hq
      exact wpSIn_cond hc (codeS_sim hE hex hK hD x a m σ r h ρ c u w hI hA hm)
    · rename_i hv
      rw [hv] at hq
      generalize hc : c.eval q = v at hq
      cases hq
      exact wpSIn_cond hc (codeS_sim hE hex hK hD y a m σ r h ρ c u w hI hA hm)
    · cases h
  | .region id ops false, a, m, σ, r, h, ρ, c, u, w, hI, hA, hm => by
    simp only [codeS] at h
    split at h
    · refine wpSIn_region ?_
      have := opsS_sim hE (c₀ := c₀) (cs := cs) (ExitS w0 ρ σ w c₀ cs r) ops.toList [] a m σ r rfl h ρ c u w hI hA hm (fun _ _ _ _ k => k)
      simpa [List.range_eq_range'] using this
    · exact codeS_flat hE hex hK hD h hI hA hm
  | .region id ops true, a, m, σ, r, h, ρ, c, u, w, hI, hA, hm => codeS_flat hE hex hK hD h hI hA hm
  | .skip, a, m, σ, r, h, ρ, c, u, w, hI, hA, hm => codeS_flat hE hex hK hD h hI hA hm
  | .label _, a, m, σ, r, h, ρ, c, u, w, hI, hA, hm => codeS_flat hE hex hK hD h hI hA hm
  | .block .., a, m, σ, r, h, ρ, c, u, w, hI, hA, hm => codeS_flat hE hex hK hD h hI hA hm
  | .loop _, a, m, σ, r, h, ρ, c, u, w, hI, hA, hm => codeS_flat hE hex hK hD h hI hA hm
  | .exit _, a, m, σ, r, h, ρ, c, u, w, hI, hA, hm => codeS_flat hE hex hK hD h hI hA hm
  | .goto _, a, m, σ, r, h, ρ, c, u, w, hI, hA, hm => codeS_flat hE hex hK hD h hI hA hm
  | .ret, a, m, σ, r, h, ρ, c, u, w, hI, hA, hm => codeS_flat hE hex hK hD h hI hA hm
  | .rangeFunc .., a, m, σ, r, h, ρ, c, u, w, hI, hA, hm => codeS_flat hE hex hK hD h hI hA hm
  | .scope _, a, m, σ, r, h, ρ, c, u, w, hI, hA, hm => codeS_flat hE hex hK hD h hI hA hm
  | .refuse _, a, m, σ, r, h, ρ, c, u, w, hI, hA, hm => codeS_flat hE hex hK hD h hI hA hm

theorem dcall_sim (hE : EnvOk E w0) (hex : ∀ f S, E.sum f = some S → ∃ fn, E.fn f = some fn) (hK : KontOk E w0 K) (hD : RegionOk E w0 K) {N : Nat} {f : FuncId} {args : List AV} {m m' : AMode} {σ' : St}
    (h : dcallBody K E N f args m σ = some (m', σ')) {cargs : Array Value} {u : FrameMode} (hI : Inv w0 ρ σ w) (hv : VRels w0 ρ args cargs.toList) (hm : ModeRel w0 ρ m u) :
    CallsDIn Fence.wide 0 E.P f cargs u w fun e u' w' => ∃ v ρ', e = .returned v ∧ Step w0 ρ σ w ρ' σ' w' ∧ ModeRel w0 ρ' m' u' := by
  unfold dcallBody at h
  split at h
  · rename_i fn hfn
    obtain ⟨hf, _, _⟩ := hE.fn f fn hfn
    split at h
    · rename_i c hc
      split at h
      · rename_i e₁ a₁ m₁ σ₁ hco
        split at h
        · rename_i hemp
          simp only [Bool.and_eq_true, List.isEmpty_iff, Array.isEmpty_iff] at hemp
          refine callsDIn_of_wpSIn hf hc trivial fun c₀ cs hc₀ => ?_
          have h0 := codeS_sim hE hex hK hD (c₀ := c₀) (cs := cs) c _ m σ _ hco ρ _ u w hI (frame0_rel hv) hm
          have hcc : ({ c₀ with mode := u } : Frame) = c₀ := by rw [← hc₀]
          rw [hcc] at h0
          refine wpSIn_mono' h0 fun e c' cs' w' k => ?_
          obtain ⟨ρ', u', rfl, s, hA, hm', he⟩ := k
          have hd : c'.defers = [] := by
            have := hA.df
            simp only at this
            rw [hemp.1] at this
            generalize c'.defers = ds at this ⊢
            cases this; rfl
          have hres : (results fn c'.tmps).run E.P w' = .ok (.tuple #[]) w' := results_none hemp.2 _ _ _
          split at h
          · cases h
            rw [show e = .normal from he]
            exact ⟨hd, u', rfl, _, hres, _, ρ', rfl, s, hm'⟩
          · cases h
            rw [show e = .ret from he]
            exact ⟨hd, u', rfl, _, hres, _, ρ', rfl, s, hm'⟩
          · cases h
        · cases h
      · cases h
    · cases h
  · cases h

/-- The evaluation is sound. -/
theorem evalK_ok (hE : EnvOk E w0) (hex : ∀ f S, E.sum f = some S → ∃ fn, E.fn f = some fn) (hD : ∀ K, KontOk E w0 K → RegionOk E w0 K) (N : Nat) : ∀ n, KontOk E w0 (evalK E N n)
  | 0 => ⟨fun _ _ _ _ h => (nomatch h), fun _ _ _ _ h => (nomatch h), fun _ _ _ _ _ _ h => (nomatch h), fun _ _ _ _ _ h => (nomatch h)⟩
  | n + 1 => by
    have ih := evalK_ok hE hex hD N n
    refine ⟨fun f args σ r h ρ w cargs hI hv => call_sim hE hex ih (hD _ ih) h hI hv, fun o args σ r h ρ w cargs L hI hL hv => round_sim hE hex ih (hD _ ih) h hI hL hv,
      fun f args m σ m' σ' h ρ w cargs u hI hv hm => dcall_sim hE hex ih (hD _ ih) h hI hv hm, fun f args m σ r h => ?_⟩
    change dcallBody (evalK E N n) E N f args m σ = some r at h
    unfold dcallBody at h
    split at h
    · rename_i fn hfn; exact ⟨fn, hfn⟩
    · cases h
end
end Go.Ai
