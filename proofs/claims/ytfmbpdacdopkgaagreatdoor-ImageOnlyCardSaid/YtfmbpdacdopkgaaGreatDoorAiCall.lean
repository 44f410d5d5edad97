/- The abstract interpreter: calls, rounds, deferred calls; the soundness of the evaluation. Conditions: the environment tells the truth of the program; regions of open order are sound. -/
import Derived.Test.YtfmbpdacdopkgaaGreatDoorAiRun
namespace Go.Ai
open Go.RowKit (Below)

section
variable {E : Env} {w0 : World} {ρ : Asg} {σ : St} {w : World} {K : Kont}

theorem fillArgs_get : ∀ (xs : List AV) (i : Nat) (t : Tr AV) (k : Nat), (fillArgs xs i t).get k = if i ≤ k ∧ k < i + xs.length then xs[k - i]? else t.get k
  | [], i, t, k => by rw [if_neg (by simp)]; rfl
  | x :: xs, i, t, k => by
    simp only [fillArgs]
    rw [fillArgs_get xs (i + 1)]
    by_cases h1 : i + 1 ≤ k ∧ k < i + 1 + xs.length
    · rw [if_pos h1, if_pos (by simp; omega), show k - i = (k - (i + 1)) + 1 by omega, List.getElem?_cons_succ]
    · rw [if_neg h1]
      by_cases hk : i = k
      · subst hk; rw [Tr.get_put, if_pos (by simp)]; simp
      · rw [Tr.get_put_ne _ _ _ _ _ hk, if_neg (by simp; omega)]

theorem frame0_rel {fn : Func} {args : List AV} {cargs : Array Value} (h : VRels w0 ρ args cargs.toList) :
    ARel w0 ρ (frame0 fn args) { tmps := cargs ++ Array.replicate (fn.ntmps - cargs.size) undef, defers := [] } := by
  have hl : args.length = cargs.size := by rw [h.length]; simp
  refine ⟨⟨?_, fun t => ?_⟩, .nil⟩
  · simp only [frame0, Array.size_append, Array.size_replicate, hl]; omega
  · simp only [AFr.get, frame0, fillArgs_get]
    by_cases ht : t < args.length
    · rw [if_pos (by omega), Nat.sub_zero]
      obtain ⟨y, hy, hr⟩ := h.get t args[t] (List.getElem?_eq_getElem ht)
      rw [List.getElem?_eq_getElem ht, Array.getD_eq_getD_getElem?, Array.getElem?_append_left (by omega)]
      rw [Array.getElem?_toList] at hy
      rw [hy]; exact hr
    · rw [if_neg (by omega), Tr.get_nil, Array.getD_eq_getD_getElem?, Array.getElem?_append_right (by omega), Array.getElem?_replicate]
      split
      · exact .v _
      · exact .v _

theorem results_list (hE : EnvOk E w0) (hI : Inv w0 ρ σ w) {a : AFr} {tmps : Array Value} (hF : FRel w0 ρ a tmps) {g : ResultVar → Sem Value} (g1 : ∀ t, g (.tmp t) = pure (tmps.getD t undef))
    (g2 : ∀ p t, g (.cell p t) = (do loadVar t (← asAddr (tmps.getD p undef)))) : ∀ (l : List ResultVar) (xs : List AV), resultsA E σ a l = some xs →
    ∃ ys : List Value, (l.mapM g).run E.P w = .ok ys w ∧ VRels w0 ρ xs ys
  | [], xs, h => by simp [resultsA] at h; subst h; exact ⟨[], rfl, .nil⟩
  | .tmp t :: rest, xs, h => by
    simp only [resultsA, Option.map_eq_some_iff] at h
    obtain ⟨l, hl, rfl⟩ := h
    obtain ⟨ys, h1, h2⟩ := results_list hE hI hF g1 g2 rest l hl
    refine ⟨tmps.getD t undef :: ys, ?_, .cons (hF.2 t) h2⟩
    simp only [List.mapM_cons, Sem.run_bind, g1, Sem.run_pure, Result.andThen_ok, h1]
  | .cell p t :: rest, xs, h => by
    simp only [resultsA] at h
    split at h
    · rename_i x hx
      simp only [Option.map_eq_some_iff] at h
      obtain ⟨l, hl, rfl⟩ := h
      obtain ⟨ys, h1, h2⟩ := results_list hE hI hF g1 g2 rest l hl
      obtain ⟨b, o, z, e1, e2, e3⟩ := load_sim hE hI hx (hF.2 p)
      refine ⟨z :: ys, ?_, .cons e3 h2⟩
      have hasA : asAddr (.pointer (some ⟨b, o, none⟩)) = (pure ⟨b, o, none⟩ : Sem Addr) := rfl
      simp only [List.mapM_cons, Sem.run_bind, g2, e1, hasA, Sem.run_pure, Result.andThen_ok, e2, h1]
    · cases h

theorem result_sim (hE : EnvOk E w0) (hI : Inv w0 ρ σ w) {a : AFr} {tmps : Array Value} (hF : FRel w0 ρ a tmps) {fn : Func} {x : AV} (h : resultA E σ a fn = some x) :
    ∃ y, (results fn tmps).run E.P w = .ok y w ∧ VRel w0 ρ x y := by
  unfold resultA at h
  have key : ∀ l, resultsA E σ a fn.results.toList = some l → ∃ ys : List Value, (results fn tmps).run E.P w = .ok (if h : ys.toArray.size = 1 then ys.toArray[0] else .tuple ys.toArray) w ∧ VRels w0 ρ l ys := fun l hl => by
    unfold results
    rw [Sem.run_bind, Array.mapM_eq_mapM_toList, Sem.run_map]
    generalize hg : (fun (x : ResultVar) => (_ : Sem Value)) = g
    have g1 : ∀ t, g (.tmp t) = pure (tmps.getD t undef) := fun t => by rw [← hg]
    have g2 : ∀ p t, g (.cell p t) = (do loadVar t (← asAddr (tmps.getD p undef))) := fun p t => by rw [← hg]
    obtain ⟨ys, h1, h2⟩ := results_list hE hI hF g1 g2 _ _ hl
    exact ⟨ys, by rw [h1]; rfl, h2⟩
  split at h
  · rename_i x' hl
    cases h
    obtain ⟨ys, h1, h2⟩ := key _ hl
    cases h2 with
    | cons h hs => cases hs; exact ⟨_, h1, h⟩
  · rename_i l hnl hl
    cases h
    obtain ⟨ys, h1, h2⟩ := key _ hl
    have hlen := h2.length
    have hne : ys.toArray.size ≠ 1 := fun e => by
      have : l.length = 1 := by rw [hlen]; simpa using e
      match l, this with
      | [z], _ => exact hnl z rfl
    rw [dif_neg hne] at h1
    exact ⟨_, h1, .tup h2⟩
  · cases h

theorem mode_run {m : AMode} {u : FrameMode} (h : ModeRel w0 ρ m u) : u ≠ .run := by
  cases m with
  | ret => rw [show u = .returning from h]; simp
  | pan x b => obtain ⟨y, rfl, _⟩ := h; simp

theorem ModeRel.mono {ρ' : Asg} (he : Ext ρ ρ') {m : AMode} {u : FrameMode} (h : ModeRel w0 ρ m u) : ModeRel w0 ρ' m u := by
  cases m with
  | ret => exact h
  | pan x b => obtain ⟨y, e, r⟩ := h; exact ⟨y, e, r.mono he⟩

theorem settle_rel {m : AMode} {u : FrameMode} (h : ModeRel w0 ρ m u) : ModeRel w0 ρ (settleA m) (settle u) := by
  cases m with
  | ret => rw [show u = .returning from h]; rfl
  | pan x b =>
    obtain ⟨y, rfl, hr⟩ := h
    cases b with
    | true => rfl
    | false => exact ⟨y, rfl, hr⟩

theorem EndOk.trans {ρ₁ : Asg} {σ₁ : St} {w₁ : World} (hI : Inv w0 ρ σ w) (h : Step w0 ρ σ w ρ₁ σ₁ w₁) {r : AEnd × St} {e : Ending} {w' : World} (k : EndOk w0 ρ₁ σ₁ w₁ r e w') : EndOk w0 ρ σ w r e w' := by
  obtain ⟨ρ', s, he⟩ := k
  exact ⟨ρ', h.trans hI s, he⟩

theorem LeavesInM.mono {F : Fence} {n : Nat} {P : Program} {fn : Func} {tmps : Array Value} {R R' : Ending → World → Prop} (hR : ∀ e w, R e w → R' e w) :
    ∀ {ds : List Deferred} {u : FrameMode} {w : World}, LeavesInM F n P fn tmps R ds u w → LeavesInM F n P fn tmps R' ds u w
  | [], .returning, w, h => let ⟨v, a, b⟩ := h; ⟨v, a, hR _ _ b⟩
  | [], .panicking _, w, h => hR _ _ h
  | [], .run, w, h => h
  | d :: ds, u, w, ⟨h0, h⟩ => by
    refine ⟨h0, h.imp (fun ⟨r, w', a, b, c⟩ => ⟨r, w', a, b, LeavesInM.mono hR c⟩) fun ⟨hn, fv, cap, f, args, a, b, c, d⟩ => ⟨hn, fv, cap, f, args, a, b, c, CallsDIn.mono d fun e u' w' k => ?_⟩⟩
    cases e with
    | returned v => exact LeavesInM.mono hR k
    | panicked c => exact LeavesInM.mono hR k
    | outgrown => exact hR _ _ k

/-- On the way out. -/
theorem leave_sim (hE : EnvOk E w0) (hK : KontOk E w0 K) {fn : Func} {a : AFr} {tmps : Array Value} : ∀ (df : List ADef) (m : AMode) (σ : St) (r : AEnd × St), leaveA K E fn a df m σ = some r →
    ∀ (ρ : Asg) (w : World) (ds : List Deferred) (u : FrameMode), Inv w0 ρ σ w → FRel w0 ρ a tmps → DRel w0 ρ df ds → ModeRel w0 ρ m u → LeavesInM Fence.wide 0 E.P fn tmps (EndOk w0 ρ σ w r) ds u w
  | [], .ret, σ, r, h, ρ, w, ds, u, hI, hF, hD, hm => by
    cases hD
    rw [show u = .returning from hm]
    simp only [leaveA, Option.map_eq_some_iff] at h
    obtain ⟨x, hx, rfl⟩ := h
    obtain ⟨y, h1, h2⟩ := result_sim hE hI hF hx
    exact ⟨y, h1, ρ, Step.refl hI, y, rfl, h2⟩
  | [], .pan x false, σ, r, h, ρ, w, ds, u, hI, hF, hD, hm => by
    cases hD
    obtain ⟨y, rfl, hr⟩ := hm
    simp only [leaveA, Option.some.injEq] at h
    subst h
    exact ⟨ρ, Step.refl hI, y, rfl, hr⟩
  | [], .pan x true, σ, r, h, ρ, w, ds, u, hI, hF, hD, hm => by simp [leaveA] at h
  | .mark o :: df, m, σ, r, h, ρ, w, _, u, hI, hF, .cons hd hds, hm => by
    obtain ⟨L, hL, rfl⟩ := hd
    simp only [leaveA] at h
    split at h
    · rename_i hg
      have hob := hI.objs _ _ hg
      obtain ⟨L', hL', hb⟩ := hob
      rw [hL] at hL'; cases hL'
      have s1 : Step w0 ρ σ w ρ (σ.set o (.dfr true)) (w.putObj L.blk (.deferred none)) :=
        Step.put hI _ _ hg hL (fun _ _ _ e => by cases e) ⟨L, hL, putObj_get_same (hI.bnd _ _ _ hL)⟩
      refine ⟨mode_run hm, .inl ⟨L.blk, _, rfl, run_takeDeferred hb, ?_⟩⟩
      have := leave_sim hE hK df m _ r h ρ _ _ u s1.inv hF hds hm
      exact LeavesInM.mono (fun e w' k => EndOk.trans hI s1 k) this
    · cases h
  | .call f args :: df, m, σ, r, h, ρ, w, _, u, hI, hF, .cons hd hds, hm => by
    obtain ⟨cap, dargs, rfl, hv⟩ := hd
    simp only [leaveA] at h
    split at h
    · rename_i m' σ' hk
      obtain ⟨fn', hfn⟩ := hK.has f args m σ _ hk
      refine ⟨mode_run hm, .inr ⟨ff_depth (rl := none), _, cap, f, dargs ++ cap, rfl, run_callFunc hE hfn _ _, fun _ _ => trivial, ?_⟩⟩
      refine CallsDIn.mono (hK.dcall f args m σ m' σ' hk ρ w (dargs ++ cap) u hI hv hm) fun e u' w' he => ?_
      obtain ⟨v, ρ', rfl, hst, hm'⟩ := he
      exact LeavesInM.mono (fun e w'' k => EndOk.trans hI hst k) (leave_sim hE hK df (settleA m') σ' r h ρ' w' _ _ hst.inv (hF.mono hst.ext) (hds.mono hst.ext) (settle_rel hm'))
    · cases h

theorem call_sim (hE : EnvOk E w0) (hex : ∀ f S, E.sum f = some S → ∃ fn, E.fn f = some fn) (hK : KontOk E w0 K) (hD : RegionOk E w0 K) {N : Nat} {f : FuncId} {args : List AV} {r : AEnd × St}
    (h : callBody K E N f args σ = some r) {cargs : Array Value} (hI : Inv w0 ρ σ w) (hv : VRels w0 ρ args cargs.toList) : Calls E.P f cargs w (EndOk w0 ρ σ w r) := by
  unfold callBody at h
  split at h
  · rename_i fn hfn
    obtain ⟨hf, _, _⟩ := hE.fn f fn hfn
    split at h
    · rename_i c hc
      refine ff_calls (rl := none) (n := 0) (callsIn_of_wp_marks hf hc trivial ?_)
      cases hco : codeA K E N none c (frame0 fn args) σ with
      | none => rw [hco] at h; cases h
      | some r₁ =>
        obtain ⟨e₁, a₁, σ₁⟩ := r₁
        rw [hco] at h
        refine wpIn_mono (code_sim hE hex hK hD (rl := none) c _ σ _ hco ρ _ w hI (frame0_rel hv) rfl) fun e c' w' k => ?_
        obtain ⟨ρ', s, hA, he⟩ := k
        cases e₁ with
        | normal => subst he; exact LeavesInM.mono (fun e w'' k => EndOk.trans hI s k) (leave_sim hE hK _ _ _ _ h ρ' w' _ _ s.inv hA.tm hA.df rfl)
        | ret => subst he; exact LeavesInM.mono (fun e w'' k => EndOk.trans hI s k) (leave_sim hE hK _ _ _ _ h ρ' w' _ _ s.inv hA.tm hA.df rfl)
        | panic x => obtain ⟨y, rfl, hy⟩ := he; exact LeavesInM.mono (fun e w'' k => EndOk.trans hI s k) (leave_sim hE hK _ _ _ _ h ρ' w' _ _ s.inv hA.tm hA.df ⟨y, rfl, hy⟩)
        | exit id => cases h
        | goto l => cases h
    · cases h
  · cases h

theorem setParams_sim : ∀ (ts : List Tmp) (xs : List AV) (a a' : AFr), setParams ts xs a = some a' → ∀ (tmps : Array Value) (ys : List Value), FRel w0 ρ a tmps → VRels w0 ρ xs ys →
    FRel w0 ρ a' ((ts.zip ys).foldl (fun tmps p => tmps.setIfInBounds p.1 p.2) tmps) ∧ ts.length = ys.length ∧ a'.df = a.df
  | [], [], a, a', h, tmps, _, hF, .nil => by simp [setParams] at h; subst h; exact ⟨hF, rfl, rfl⟩
  | t :: ts, x :: xs, a, a', h, tmps, _, hF, .cons hv hs => by
    simp only [setParams] at h
    split at h
    · rename_i ht
      have hF' : FRel w0 ρ (a.set t x) (({ tmps := tmps, defers := [] } : Act).put (some t) _).tmps := FRel.put (c := { tmps := tmps, defers := [] }) hF (d := some t) (by simp [AFr.put, ht]) hv
      obtain ⟨h1, h2, h3⟩ := setParams_sim ts xs _ a' h _ _ hF' hs
      exact ⟨h1, by simp [h2], h3⟩
    · cases h
  | [], _ :: _, a, a', h, _, _, _, _ => by simp [setParams] at h
  | _ :: _, [], a, a', h, _, _, _, _ => by simp [setParams] at h

theorem round_sim (hE : EnvOk E w0) (hex : ∀ f S, E.sum f = some S → ∃ fn, E.fn f = some fn) (hK : KontOk E w0 K) (hD : RegionOk E w0 K) {N : Nat} {o : Nat} {args : List AV} {r : AEnd × St}
    (h : roundBody K E N o args σ = some r) {cargs : Array Value} {L : Loc} (hI : Inv w0 ρ σ w) (hL : ρ o 0 = some L) (hv : VRels w0 ρ args cargs.toList) :
    ∃ f tmps assign body, (Instr.yield L.blk cargs).run E.P w = .ok (.round L.blk f tmps assign body) w ∧ RoundIn Fence.wide 0 E.P L.blk f tmps assign body w (EndOk w0 ρ σ w r) := by
  unfold roundBody at h
  split at h
  · rename_i r₀ hr₀
    obtain ⟨hg₀, L', r', hL', hb, f1, f2, f3, f4, f5, f6, f7⟩ := loop_get hI hr₀
    rw [hL] at hL'; cases hL'
    split at h
    · rename_i a ha
      have hF0 : FRel w0 ρ { r₀.tm with df := [] } r'.tmps := ⟨f6.1, f6.2⟩
      obtain ⟨hF, hlen, hdf⟩ := setParams_sim _ _ _ _ ha _ _ hF0 hv
      have hsz : cargs.size = r'.params.size := by
        have : r'.params.toList.length = cargs.toList.length := by rw [f3]; exact hlen
        simpa using this.symm
      have htm : (r'.params.zip cargs).foldl (fun tmps (p : Tmp × Value) => tmps.setIfInBounds p.1 p.2) r'.tmps = (r₀.params.zip cargs.toList).foldl (fun tmps p => tmps.setIfInBounds p.1 p.2) r'.tmps := by
        rw [← Array.foldl_toList, Array.toList_zip, f3]
      refine ⟨r'.fn, _, r'.assign, r'.body, run_yield hb hsz, ?_⟩
      refine roundIn_of_wpIn trivial ?_
      have hF' : FRel w0 ρ a ((r'.params.zip cargs).foldl (fun tmps (p : Tmp × Value) => tmps.setIfInBounds p.1 p.2) r'.tmps) := by rw [htm]; exact hF
      have hA : ARel w0 ρ a { tmps := (r'.params.zip cargs).foldl (fun tmps (p : Tmp × Value) => tmps.setIfInBounds p.1 p.2) r'.tmps, defers := [] } := ⟨hF', by rw [hdf]; exact .nil⟩
      cases hco : codeA K E N (some o) r₀.assign a σ with
      | none => rw [hco] at h; simp at h
      | some r₁ =>
        obtain ⟨e₁, a₁, σ₁⟩ := r₁
        rw [hco] at h
        have hro : RoOk ρ (some o) (some L.blk) := ⟨L, hL, rfl⟩
        have hc1 := code_sim hE hex hK hD (rl := some L.blk) r₀.assign a σ _ hco ρ _ w hI hA hro
        rw [f4]
        refine wpIn_mono (F := FF (some L.blk)) hc1 fun e c' w' k => ?_
        obtain ⟨ρ₁, s1, hA1, he⟩ := k
        cases e₁ with
        | normal =>
          subst he
          simp only at h
          split at h
          · rename_i r₁ hr₁
            split at h
            · rename_i hready
              obtain ⟨hg₁, L₁, r₁', hL₁, hb₁, g1, g2, g3, g4, g5, g6, g7⟩ := loop_get s1.inv hr₁
              have hLL : L₁ = L := by have := s1.ext _ _ _ hL; rw [hL₁] at this; cases this; rfl
              subst hLL
              have hst : r₁'.state = .ready := by
                rw [g1]
                revert hready
                cases r₁.state <;> first | (intro _; rfl) | (intro h; exact absurd h (by decide))
              have s2 := loop_put s1.inv hg₁ hL₁ g3 g4 g5 g6 g7 .busy r₁.pending
              have e3 : ({ r₁' with state := .busy } : Loop) = { r₁' with state := .busy, pending := r₁.pending } := by rw [← g2]
              refine ⟨_, run_beginRound hb₁ hst, ?_⟩
              rw [e3]
              generalize w'.putObj L₁.blk (.loop { r₁' with state := .busy, pending := r₁.pending }) = w₂ at s2 ⊢
              cases hcb : codeA K E N (some o) r₀.body a₁ (σ₁.set o (.loop { r₁ with state := .busy })) with
              | none => rw [hcb] at h; simp at h
              | some r₂ =>
                obtain ⟨e₂, a₂, σ₂⟩ := r₂
                rw [hcb] at h
                have hro2 : RoOk ρ₁ (some o) (some L₁.blk) := ⟨L₁, hL₁, rfl⟩
                have hc2 := code_sim hE hex hK hD (rl := some L₁.blk) r₀.body a₁ _ _ hcb ρ₁ c' w₂ s2.inv hA1 hro2
                rw [f5]
                refine wpIn_mono (F := FF (some L₁.blk)) hc2 fun e c'' w'' k => ?_
                obtain ⟨ρ₂, s3, hA2, he⟩ := k
                simp only at h
                split at h
                · cases h
                · have fin : ∀ (jump : Option Code) (r₂ : ALoop), getLoop? σ₂ o = some r₂ →
                      ∃ v w₃, (Instr.endRound L₁.blk jump).run E.P w'' = .ok v w₃ ∧ EndOk w0 ρ σ w (.ret (.b jump.isNone), σ₂.set o (.loop { r₂ with state := if jump.isNone then .ready else .done, pending := jump })) (.returned v) w₃ := fun jump r₂ hr₂ => by
                    obtain ⟨hg₂, L₂, r₂', hL₂, hb₂, k1, k2, k3, k4, k5, k6, k7⟩ := loop_get s3.inv hr₂
                    have hLL : L₂ = L₁ := by have := s3.ext _ _ _ hL₁; rw [hL₂] at this; cases this; rfl
                    subst hLL
                    have s4 := loop_put s3.inv hg₂ hL₂ k3 k4 k5 k6 k7 (if jump.isNone then .ready else .done) jump
                    exact ⟨_, _, run_endRound jump hb₂, ρ₂, ((s1.trans hI s2).trans hI s3).trans hI s4, _, rfl, .v _⟩
                  cases e₂ with
                  | normal =>
                    subst he
                    simp only at h
                    split at h
                    · rename_i r₂ hr₂; cases h; exact fin none r₂ hr₂
                    · cases h
                  | ret =>
                    subst he
                    simp only at h
                    split at h
                    · rename_i r₂ hr₂; cases h; exact fin (some .ret) r₂ hr₂
                    · cases h
                  | exit id =>
                    subst he
                    simp only at h
                    split at h
                    · rename_i r₂ hr₂; cases h; exact fin (some (.exit id)) r₂ hr₂
                    · cases h
                  | goto t =>
                    subst he
                    simp only at h
                    split at h
                    · rename_i r₂ hr₂; cases h; exact fin (some (.goto t)) r₂ hr₂
                    · cases h
                  | panic x => cases h
            · cases h
          · cases h
        | exit id => cases h
        | goto l => cases h
        | ret => cases h
        | panic x => cases h
    · cases h
  · cases h

end
end Go.Ai
