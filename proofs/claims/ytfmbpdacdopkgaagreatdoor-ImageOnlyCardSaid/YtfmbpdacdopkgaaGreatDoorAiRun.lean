/- The abstract interpreter: regions, code, calls, rounds, deferred calls. Conditions: the environment tells the truth of the program. -/
import Derived.Test.YtfmbpdacdopkgaaGreatDoorAiWrite2
import Derived.LoopNIn
import Derived.RangeFuncCalls
namespace Go.Ai
open Go.RowKit (Below)

/-- The widest fence, in a round or not. -/
def FF (rl : Option Nat) : Fence := { Fence.wide with round := rl }

theorem ff_fn (rl : Option Nat) (f : FuncId) : (FF rl).fn f := trivial
theorem ff_room (rl : Option Nat) (n : Nat) : (FF rl).room n := room_wide n
theorem ff_depth {rl : Option Nat} {p : Prop} : (FF rl).depth.isSome = true → p := fun h => by cases h
theorem calls_ff {rl : Option Nat} {n : Nat} {P : Program} {f : FuncId} {args : Array Value} {w : World} {R : Ending → World → Prop} (h : Calls P f args w R) : CallsIn (FF rl) n P f args w R :=
  (callsIn_wide (n := n)).2 h
theorem ff_calls {rl : Option Nat} {n : Nat} {P : Program} {f : FuncId} {args : Array Value} {w : World} {R : Ending → World → Prop} (h : CallsIn (FF rl) n P f args w R) : Calls P f args w R :=
  (callsIn_wide (n := n)).1 h

section
variable (E : Env) (w0 : World)

/-- How a call ends. -/
def EndOk (ρ : Asg) (σ : St) (w : World) (r : AEnd × St) (e : Ending) (w' : World) : Prop :=
  ∃ ρ', Step w0 ρ σ w ρ' r.2 w' ∧ match r.1 with
    | .ret x => ∃ y, e = .returned y ∧ VRel w0 ρ' x y
    | .panic x => ∃ y, e = .panicked [{ v := y, recovered := false }] ∧ VRel w0 ρ' x y

def ModeRel (ρ : Asg) : AMode → FrameMode → Prop
  | .ret, u => u = .returning
  | .pan x b, u => ∃ y, u = .panicking [{ v := y, recovered := b }] ∧ VRel w0 ρ x y

structure KontOk (K : Kont) : Prop where
  call : ∀ f args σ r, K.call f args σ = some r → ∀ ρ w (cargs : Array Value), Inv w0 ρ σ w → VRels w0 ρ args cargs.toList → Calls E.P f cargs w (EndOk w0 ρ σ w r)
  round : ∀ o args σ r, K.round o args σ = some r → ∀ ρ w (cargs : Array Value) (L : Loc), Inv w0 ρ σ w → ρ o 0 = some L → VRels w0 ρ args cargs.toList →
    ∃ f tmps assign body, (Instr.yield L.blk cargs).run E.P w = .ok (.round L.blk f tmps assign body) w ∧ RoundIn Fence.wide 0 E.P L.blk f tmps assign body w (EndOk w0 ρ σ w r)
  dcall : ∀ f args m σ m' σ', K.dcall f args m σ = some (m', σ') → ∀ ρ w (cargs : Array Value) u, Inv w0 ρ σ w → VRels w0 ρ args cargs.toList → ModeRel w0 ρ m u →
    CallsDIn Fence.wide 0 E.P f cargs u w fun e u' w' => ∃ v ρ', e = .returned v ∧ Step w0 ρ σ w ρ' σ' w' ∧ ModeRel w0 ρ' m' u'
  has : ∀ f args m σ r, K.dcall f args m σ = some r → ∃ fn, E.fn f = some fn

/-- How code is left. -/
def ExitOk (ρ : Asg) (σ : St) (w : World) (r : AExit × AFr × St) (e : Exit) (c : Act) (w' : World) : Prop :=
  ∃ ρ', Step w0 ρ σ w ρ' r.2.2 w' ∧ ARel w0 ρ' r.2.1 c ∧ match r.1 with
    | .normal => e = .normal
    | .exit id => e = .exit id
    | .goto l => e = .goto l
    | .ret => e = .ret
    | .panic x => ∃ y, e = .panic [{ v := y, recovered := false }] ∧ VRel w0 ρ' x y

/-- In which round the code is. -/
def RoOk (ρ : Asg) : Option Nat → Option Nat → Prop
  | none, rl => rl = none
  | some o, rl => ∃ L : Loc, ρ o 0 = some L ∧ rl = some L.blk

end

section
variable {E : Env} {w0 : World} {ρ : Asg} {σ : St} {w : World} {K : Kont}

theorem RoOk.mono {ρ' : Asg} (he : Ext ρ ρ') {ro rl : Option Nat} (h : RoOk ρ ro rl) : RoOk ρ' ro rl := by
  cases ro with
  | none => exact h
  | some o => obtain ⟨L, a, b⟩ := h; exact ⟨L, he _ _ _ a, b⟩

theorem FRel.put {a a' : AFr} {c : Act} (h : FRel w0 ρ a c.tmps) {d : Option Tmp} {x : AV} {y : Value} (hp : a.put d x = some a') (hr : VRel w0 ρ x y) : FRel w0 ρ a' (c.put d y).tmps := by
  unfold AFr.put at hp
  split at hp
  · cases hp; exact h
  · rename_i t
    split at hp
    · rename_i ht
      cases hp
      refine ⟨by simp [Act.put, h.1, AFr.set], fun k => ?_⟩
      by_cases hk : t = k
      · subst hk
        have : t < c.tmps.size := by rw [h.1]; exact ht
        rw [AFr.get_set_same]; simpa [Act.put, Array.getD_eq_getD_getElem?, Array.getElem?_setIfInBounds, this] using hr
      · rw [AFr.get_set_ne _ _ _ _ hk]
        have := h.2 k
        simpa [Act.put, Array.getD_eq_getD_getElem?, Array.getElem?_setIfInBounds, hk] using this
    · cases hp

theorem AFr.put_df {a a' : AFr} {d : Option Tmp} {x : AV} (h : a.put d x = some a') : a'.df = a.df := by
  unfold AFr.put at h
  split at h
  · cases h; rfl
  · split at h
    · cases h; rfl
    · cases h

theorem ARel.put {a a' : AFr} {c : Act} (h : ARel w0 ρ a c) {d : Option Tmp} {x : AV} {y : Value} (hp : a.put d x = some a') (hr : VRel w0 ρ x y) : ARel w0 ρ a' (c.put d y) :=
  ⟨h.tm.put hp hr, by rw [AFr.put_df hp]; cases d <;> exact h.df⟩

theorem wanted_sim {ops : Array Oper} {a : AFr} {c : Act} (h : FRel w0 ρ a c.tmps) {o : Oper} {b : Bool} (hw : wantedA ops a o = some b) : Region.wanted o (yielded ops c.tmps) = b := by
  unfold wantedA at hw
  unfold Region.wanted
  split at hw
  · rename_i hg; cases hw; simp [hg]
  · rename_i j want hg
    simp only [hg]
    split at hw
    · rename_i d hd
      have hr := h.2 d
      split at hw
      · rename_i b' hb
        cases hw
        rw [hb] at hr
        generalize hv : c.tmps.getD d undef = v at hr
        cases hr
        have : c.tmps[d]? = some (.bool b') := by
          rw [Array.getD_eq_getD_getElem?] at hv
          cases ht : c.tmps[d]? with
          | none => simp [ht, undef] at hv
          | some v => simp [ht] at hv; rw [hv]
        simp [yielded, hd, this]
      · rename_i v hnb hv'
        cases hw
        rw [hv'] at hr
        generalize hv : c.tmps.getD d undef = v' at hr
        cases hr
        have : yielded ops c.tmps j = none := by
          simp only [yielded, hd, Option.bind_some]
          cases ht : c.tmps[d]? with
          | none => rfl
          | some u =>
            rw [Array.getD_eq_getD_getElem?, ht] at hv
            simp at hv
            subst hv
            cases u <;> first | rfl | (exact (hnb _ rfl).elim)
        rw [this]; cases want <;> rfl
      · cases hw
    · rename_i hd
      cases hw
      simp [yielded, hd]

/-- Nothing but one place has changed. -/
def Only (c : Act) (d : Option Tmp) (a a' : AFr) (c' : Act) : Prop := (∃ y, c'.tmps = (c.put d y).tmps) ∧ (c'.defers = c.defers ∨ a'.df.length ≠ a.df.length)

theorem only_put (c : Act) (d : Option Tmp) (a a' : AFr) (y : Value) : Only c d a a' (c.put d y) := ⟨⟨y, rfl⟩, .inl (by cases d <;> rfl)⟩

/-- One operation, in the model's calculus. -/
theorem one_sim (hE : EnvOk E w0) (hex : ∀ f S, E.sum f = some S → ∃ fn, E.fn f = some fn) (hK : KontOk E w0 K) {ops : Array Oper} {a : AFr} {c : Act} {o : Oper} {i : Nat} {p : Option AV} {a' : AFr} {σ' : St} {rl : Option Nat}
    (hI : Inv w0 ρ σ w) (hA : ARel w0 ρ a c) (hi : ops[i]? = some o) (hd : rl = none ∨ ∀ q, o.op ≠ .defer q) (h : oneA K E ops a σ o = some (p, a', σ'))
    (next : Act → World → Prop) (Q : Exit → Act → World → Prop)
    (hnext : p = none → ∀ ρ' c' w', Step w0 ρ σ w ρ' σ' w' → ARel w0 ρ' a' c' → Only c o.dst a a' c' → next c' w')
    (hpan : ∀ x y ρ' w', p = some x → Step w0 ρ σ w ρ' σ' w' → VRel w0 ρ' x y → ARel w0 ρ' a' c → Q (.panic [{ v := y, recovered := false }]) c w') :
    wpOpIn (FF rl) 0 E.P ops Q i next c w := by
  unfold oneA at h
  simp only [wpOpIn, hi]
  split at h
  · rename_i hwa
    have hw := wanted_sim hA.tm hwa
    rw [if_pos hw]
    split at h
    · rename_i r hr
      have hn := opA_sim hE hI hex hA.tm hr
      refine ⟨fun f _ => trivial, ?_⟩
      have hsem : o.semAt (FF rl).round c.eval = execOp c.eval o := by
        rcases hd with rfl | hd
        · exact Oper.semAt_none _ _
        · exact Oper.semAt_eq _ _ _ hd
      rw [hsem]
      obtain ⟨nx, σ₁⟩ := r
      cases nx with
      | val x =>
        simp only [uponA, Option.map_eq_some_iff, Prod.mk.injEq] at h
        obtain ⟨a₁, ha, h1, h2, h3⟩ := h
        subst h1 h2 h3
        rcases hn with ⟨y, w', ρ', hrun, hst, hv⟩ | ⟨rfl, f, cargs, hrun, hcall⟩
        · rw [hrun]; exact hnext rfl ρ' _ w' hst ((hA.mono hst.ext).put ha hv) (only_put ..)
        · rw [hrun]
          refine ⟨ff_depth, calls_ff (hcall.mono fun e w' he => ?_)⟩
          obtain ⟨y, rfl, hv, hb⟩ := he
          exact hnext rfl ρ _ w' (Step.below hI hb) (hA.put ha hv) (only_put ..)
      | skip =>
        simp only [uponA, Option.map_eq_some_iff, Prod.mk.injEq] at h
        obtain ⟨a₁, ha, h1, h2, h3⟩ := h
        subst h1 h2 h3
        obtain ⟨w', ρ', hrun, hst⟩ := hn
        rw [hrun]; exact hnext rfl ρ' _ w' hst ((hA.mono hst.ext).put ha (.v _)) (only_put ..)
      | call f args =>
        obtain ⟨rfl, cargs, hrun, hv, fn, hfn⟩ := hn
        simp only [uponA] at h
        rw [hrun]
        refine ⟨ff_depth, ?_⟩
        split at h
        · rename_i x σ₂ hk
          simp only [Option.map_eq_some_iff, Prod.mk.injEq] at h
          obtain ⟨a₁, ha, h1, h2, h3⟩ := h
          subst h1 h2 h3
          refine calls_ff ((hK.call f args σ₁ _ hk ρ w cargs hI hv).mono fun e w' he => ?_)
          obtain ⟨ρ', hst, y, rfl, hy⟩ := he
          exact hnext rfl ρ' _ w' hst ((hA.mono hst.ext).put ha hy) (only_put ..)
        · rename_i x σ₂ hk
          cases h
          refine calls_ff ((hK.call f args σ₁ _ hk ρ w cargs hI hv).mono fun e w' he => ?_)
          obtain ⟨ρ', hst, y, rfl, hy⟩ := he
          exact hpan x y ρ' w' rfl hst hy (hA.mono hst.ext)
        · cases h
      | round l args =>
        obtain ⟨rfl, L, cargs, hL, hrun, hv⟩ := hn
        simp only [uponA] at h
        rw [hrun]
        split at h
        · rename_i x σ₂ hk
          simp only [Option.map_eq_some_iff, Prod.mk.injEq] at h
          obtain ⟨a₁, ha, h1, h2, h3⟩ := h
          subst h1 h2 h3
          obtain ⟨f, tmps, as, bo, hy, hround⟩ := hK.round l args σ₁ _ hk ρ w cargs L hI hL hv
          rw [hy]
          refine ⟨ff_depth, RoundIn.mono (F := FF rl) hround fun e w' he => ?_⟩
          obtain ⟨ρ', hst, y, rfl, hy⟩ := he
          exact hnext rfl ρ' _ w' hst ((hA.mono hst.ext).put ha hy) (only_put ..)
        · rename_i x σ₂ hk
          cases h
          obtain ⟨f, tmps, as, bo, hy, hround⟩ := hK.round l args σ₁ _ hk ρ w cargs L hI hL hv
          rw [hy]
          refine ⟨ff_depth, RoundIn.mono (F := FF rl) hround fun e w' he => ?_⟩
          obtain ⟨ρ', hst, y, rfl, hy⟩ := he
          exact hpan x y ρ' w' rfl hst hy (hA.mono hst.ext)
        · cases h
      | defer df =>
        obtain ⟨rfl, d', hrun, hdr, _⟩ := hn
        simp only [uponA, Option.map_eq_some_iff, Prod.mk.injEq] at h
        obtain ⟨a₁, ha, h1, h2, h3⟩ := h
        subst h1 h2 h3
        rw [hrun]
        refine hnext rfl ρ _ w (Step.refl hI) ?_ ⟨⟨undef, by cases o.dst <;> rfl⟩, .inr (by rw [AFr.put_df ha]; simp)⟩
        have hA' : ARel w0 ρ { a with df := df :: a.df } { c with defers := d' :: c.defers } := ⟨⟨hA.tm.1, hA.tm.2⟩, .cons hdr hA.df⟩
        exact hA'.put ha (.v _)
      | panic x =>
        obtain ⟨rfl, y, hrun, hv⟩ := hn
        simp only [uponA] at h
        cases h
        rw [hrun]
        exact hpan x y ρ w rfl (Step.refl hI) hv hA
    · cases h
  · rename_i hwa
    have hw := wanted_sim hA.tm hwa
    rw [if_neg (by simp [hw])]
    simp only [Option.map_eq_some_iff, Prod.mk.injEq] at h
    obtain ⟨a₁, ha, h1, h2, h3⟩ := h
    subst h1 h2 h3
    exact ⟨fun f _ => trivial, hnext rfl ρ _ w (Step.refl hI) (hA.put ha (.v _)) (only_put ..)⟩
  · cases h

/-- Operations one after the other. -/
theorem ops_sim (hE : EnvOk E w0) (hex : ∀ f S, E.sum f = some S → ∃ fn, E.fn f = some fn) (hK : KontOk E w0 K) {ops : Array Oper} {rl : Option Nat} (Q : Exit → Act → World → Prop) :
    ∀ (suf pre : List Oper) (a : AFr) (σ : St) (r : AExit × AFr × St), ops.toList = pre ++ suf → (rl = none ∨ ∀ o ∈ suf, ∀ q, o.op ≠ .defer q) → opsA K E ops suf a σ = some r →
    ∀ (ρ : Asg) (c : Act) (w : World), Inv w0 ρ σ w → ARel w0 ρ a c → (∀ e c' w', ExitOk w0 ρ σ w r e c' w' → Q e c' w') →
    wpOpsIn (FF rl) 0 E.P ops Q (List.range' pre.length suf.length) c w
  | [], pre, a, σ, r, _, _, h, ρ, c, w, hI, hA, hQ => by
    simp only [opsA] at h; cases h
    exact hQ _ _ _ ⟨ρ, Step.refl hI, hA, rfl⟩
  | o :: suf, pre, a, σ, r, hl, hd, h, ρ, c, w, hI, hA, hQ => by
    have hi : ops[pre.length]? = some o := by
      rw [← Array.getElem?_toList, hl]; simp
    simp only [List.length_cons, List.range'_succ]
    rw [wpOpsIn_cons]
    simp only [opsA] at h
    have hd1 : rl = none ∨ ∀ q, o.op ≠ .defer q := hd.imp id fun hd => hd o (by simp)
    have hd2 : rl = none ∨ ∀ o ∈ suf, ∀ q, o.op ≠ .defer q := hd.imp id fun hd o ho => hd o (by simp [ho])
    split at h
    · rename_i a' σ' h1
      refine one_sim hE hex hK hI hA hi hd1 h1 _ _ (fun _ ρ' c' w' hst hA' _ => ?_) (fun x y ρ' w' e => by cases e)
      have := ops_sim hE hex hK Q suf (pre ++ [o]) a' σ' r (by simp [hl]) hd2 h ρ' c' w' hst.inv hA' (fun e c'' w'' ⟨ρ'', s2, hA2, he⟩ => hQ e c'' w'' ⟨ρ'', hst.trans hI s2, hA2, he⟩)
      simpa using this
    · rename_i x a' σ' h1
      cases h
      exact one_sim hE hex hK hI hA hi hd1 h1 _ _ (fun e => by cases e) (fun x' y ρ' w' e hst hv hA' => by cases e; exact hQ _ _ _ ⟨ρ', hst, hA', y, rfl, hv⟩)
    · cases h


/-- What is asked of a region whose order is open. -/
def RegionOk (E : Env) (w0 : World) (K : Kont) : Prop :=
  ∀ (id : Nat) (ops : Array Oper) (a : AFr) (σ : St) (r : AExit × AFr × St) (rl : Option Nat), regionA K E ops a σ = some r → ∀ (ρ : Asg) (c : Act) (w : World), Inv w0 ρ σ w → ARel w0 ρ a c →
    (Code.region id ops true).wpIn (FF rl) 0 E.P (ExitOk w0 ρ σ w r) c w

theorem ExitOk.trans {ρ₁ : Asg} {σ₁ : St} {w₁ : World} (hI : Inv w0 ρ σ w) (h : Step w0 ρ σ w ρ₁ σ₁ w₁) {r : AExit × AFr × St} {e : Exit} {c : Act} {w' : World} (k : ExitOk w0 ρ₁ σ₁ w₁ r e c w') : ExitOk w0 ρ σ w r e c w' := by
  obtain ⟨ρ', s, hA, he⟩ := k
  exact ⟨ρ', h.trans hI s, hA, he⟩

theorem wpIn_scope' {F : Fence} {n : Nat} {P : Program} {c : Code} {Q : Exit → Act → World → Prop} {a : Act} {w : World} (h : c.wpIn F n P (fun e a w => (∀ l, e ≠ .goto l) ∧ Q e a w) a w) : (Code.scope c).wpIn F n P Q a w := by
  intro b k cs hro hb hr
  have h0 : (lone (b.atR a (.code (.scope c) :: k)) cs w).fenced P F := fenced_calm hb hr rfl
  have hs : step P (lone (b.atR a (.code (.scope c) :: k)) cs w) = .next (lone (b.atR a (.code c :: .inScope c :: k)) cs w) :=
    step_lone_go (by simp [stepG, stepG.exec, Frame.atR])
  have hs' : ∀ a' w', step P (lone (b.atR a' (.inScope c :: k)) cs w') = .next (lone (b.atR a' k) cs w') := fun a' w' =>
    step_lone_go (by simp [stepG, stepG.exec, Frame.atR])
  obtain ⟨e, a₁, w₁, ⟨hg, hq⟩, harr⟩ := h b (.inScope c :: k) cs hro hb hr
  cases e with
  | normal => exact ⟨.normal, a₁, w₁, hq, .head h0 hs (StepsIn.trans harr (.one (fenced_calm hb hr rfl) (hs' _ _)))⟩
  | exit id =>
    have hx : exitTo id (.inScope c :: k) = exitTo id k := by simp [exitTo]
    exact ⟨.exit id, a₁, w₁, hq, fun k' hk => .head h0 hs (harr.1 k' (by rw [hx]; exact hk)), fun hr' hk => let ⟨k₁, h1, h2⟩ := harr.2 hr' (by rw [hx]; exact hk); ⟨k₁, h1, .head h0 hs h2⟩⟩
  | goto l => exact absurd rfl (hg l)
  | ret => exact ⟨_, a₁, w₁, hq, .of_steps (.one h0 hs) harr⟩
  | panic ch => exact ⟨_, a₁, w₁, hq, .of_steps (.one h0 hs) harr⟩
  | outgrown => exact ⟨_, a₁, w₁, hq, .of_steps (.one h0 hs) harr⟩

theorem iter_sim {ro rl : Option Nat} {c : Code} {f : AFr → St → Option (AExit × AFr × St)} {Q : Exit → Act → World → Prop}
    (hf : ∀ a σ r, f a σ = some r → ∀ (ρ : Asg) (ac : Act) (w : World), Inv w0 ρ σ w → ARel w0 ρ a ac → RoOk ρ ro rl → c.wpIn (FF rl) 0 E.P (ExitOk w0 ρ σ w r) ac w) :
    ∀ (n : Nat) (a : AFr) (σ : St) (r : AExit × AFr × St), iterA f n a σ = some r → ∀ (ρ : Asg) (ac : Act) (w : World), Inv w0 ρ σ w → ARel w0 ρ a ac → RoOk ρ ro rl →
      (∀ e c' w', ExitOk w0 ρ σ w r e c' w' → Q e c' w') → Code.roundsIn (FF rl) 0 E.P c Q n ac w
  | 0, a, σ, r, h, _, _, _, _, _, _, _ => by simp [iterA] at h
  | n + 1, a, σ, r, h, ρ, ac, w, hI, hA, hro, hQ => by
    rw [roundsIn_succ]
    simp only [iterA] at h
    cases hfa : f a σ with
    | none => rw [hfa] at h; simp at h
    | some r₁ =>
      have h1 := hf a σ r₁ hfa ρ ac w hI hA hro
      rw [hfa] at h
      obtain ⟨e₁, a₁, σ₁⟩ := r₁
      refine wpIn_mono h1 fun e c' w' hx => ?_
      obtain ⟨ρ', s, hA', he⟩ := hx
      cases e₁ with
      | normal =>
        subst he
        simp only at h
        exact iter_sim hf n a₁ σ₁ r h ρ' c' w' s.inv hA' (hro.mono s.ext) fun e c'' w'' k => hQ e c'' w'' (k.trans hI s)
      | exit id => subst he; cases h; exact hQ _ _ _ ⟨ρ', s, hA', rfl⟩
      | goto l => subst he; cases h; exact hQ _ _ _ ⟨ρ', s, hA', rfl⟩
      | ret => subst he; cases h; exact hQ _ _ _ ⟨ρ', s, hA', rfl⟩
      | panic x => obtain ⟨y, rfl, hy⟩ := he; cases h; exact hQ _ _ _ ⟨ρ', s, hA', y, rfl, hy⟩

theorem jump_sim {rl : Option Nat} {cd : Code} {e : AExit} {a : AFr} {Q : Exit → Act → World → Prop} {c : Act} {ρ' : Asg} {σ' : St} {w' : World} (hj : jumpA cd = some e) (s : Step w0 ρ σ w ρ' σ' w') (hA : ARel w0 ρ' a c)
    (hQ : ∀ e' c' w', ExitOk w0 ρ σ w (e, a, σ') e' c' w' → Q e' c' w') : cd.wpIn (FF rl) 0 E.P Q c w' := by
  unfold jumpA at hj
  split at hj
  · cases hj; exact wpIn_ret (hQ _ _ _ ⟨ρ', s, hA, rfl⟩)
  · cases hj; exact wpIn_exit (hQ _ _ _ ⟨ρ', s, hA, rfl⟩)
  · cases hj; exact wpIn_goto (hQ _ _ _ ⟨ρ', s, hA, rfl⟩)
  · cases hj

theorem loop_get {l : Nat} {r : ALoop} (hI : Inv w0 ρ σ w) (h : getLoop? σ l = some r) : σ.get l = some (.loop r) ∧ ∃ (L : Loc) (r' : Loop), ρ l 0 = some L ∧ w.heap[L.blk]? = some (.loop r') ∧ r'.state = r.state ∧ r'.pending = r.pending ∧
    r'.params.toList = r.params ∧ r'.assign = r.assign ∧ r'.body = r.body ∧ FRel w0 ρ r.tm r'.tmps ∧ ∃ D : Loc, ρ r.dfr 0 = some D ∧ r'.defers = D.blk := by
  unfold getLoop? at h
  split at h
  · rename_i r₁ hg
    cases h
    exact ⟨hg, hI.objs _ _ hg⟩
  · cases h

/-- A loop's record changes. -/
theorem loop_put (hI : Inv w0 ρ σ w) {l : Nat} {r : ALoop} {L : Loc} {r' : Loop} (hg : σ.get l = some (.loop r)) (hL : ρ l 0 = some L) (hp : r'.params.toList = r.params) (ha : r'.assign = r.assign) (hb : r'.body = r.body)
    (ht : FRel w0 ρ r.tm r'.tmps) (hD : ∃ D : Loc, ρ r.dfr 0 = some D ∧ r'.defers = D.blk) (st : LoopState) (pd : Option Code) :
    Step w0 ρ σ w ρ (σ.set l (.loop { r with state := st, pending := pd })) (w.putObj L.blk (.loop { r' with state := st, pending := pd })) :=
  Step.put hI _ _ hg hL (fun _ _ _ e => by cases e) ⟨L, _, hL, putObj_get_same (hI.bnd _ _ _ hL), rfl, rfl, hp, ha, hb, ht, hD⟩

theorem range_sim (hE : EnvOk E w0) (hK : KontOk E w0 K) {ro rl : Option Nat} {f : Operand} {ps : Array Tmp} {assign body : Code} {a : AFr} {r : AExit × AFr × St} (h : rangeA K E ro f ps assign body a σ = some r)
    {c : Act} (hI : Inv w0 ρ σ w) (hA : ARel w0 ρ a c) (hro : RoOk ρ ro rl) : (Code.rangeFunc f ps assign body).wpIn (FF rl) 0 E.P (ExitOk w0 ρ σ w r) c w := by
  refine wpIn_rangeFunc fun fnid _ => ?_
  unfold rangeA at h
  simp only at h
  split at h
  · cases h
  · rename_i l a' σ' henter
    -- entering
    obtain ⟨L, mark, w₁, ρ₁, hl, hrun, hst, hA'⟩ : ∃ (L : Loc) (mark : List Deferred) (w₁ : World) (ρ₁ : Asg), ρ₁ l 0 = some L ∧ (Instr.enterLoop fnid c.tmps ps assign body rl).run E.P w = .ok (L.blk, mark) w₁ ∧
        Step w0 ρ σ w ρ₁ σ' w₁ ∧ ARel w0 ρ₁ a' { c with defers := mark ++ c.defers } := by
      cases ro with
      | none =>
        have : rl = none := hro
        subst this
        simp only [Option.some.injEq, Prod.mk.injEq] at henter
        obtain ⟨rfl, rfl, rfl⟩ := henter
        have hno : ρ σ.next 0 = none := (hI.fresh σ.next (Nat.le_refl _)).2 0
        have s1 := Step.add hI (.dfr false) (.deferred (some [])) ⟨w.heap.size, 0, 0, 0, Nat.le_refl _⟩ rfl (fun _ _ _ e => by cases e) ⟨_, upd_same _ _ _ _, alloc_new _ _⟩
        generalize hρ : upd ρ σ.next 0 ⟨w.heap.size, 0, 0, 0, Nat.le_refl _⟩ = ρ₁ at s1
        have hd1 : ρ₁ σ.next 0 = some ⟨w.heap.size, 0, 0, 0, Nat.le_refl _⟩ := by rw [← hρ]; exact upd_same _ _ _ _
        have hno2 : ρ₁ (σ.add (.dfr false)).next 0 = none := (s1.inv.fresh (σ.add (.dfr false)).next (Nat.le_refl _)).2 0
        have he2 := upd_ext (L := ⟨w.heap.size + 1, 0, 0, 0, Nat.le_refl _⟩) hno2
        have s2 := Step.add s1.inv (.loop { state := .ready, pending := none, tm := a, params := ps.toList, assign, body, dfr := σ.next })
          (.loop { state := .ready, pending := none, fn := fnid, tmps := c.tmps, params := ps, assign, body, defers := w.heap.size }) ⟨w.heap.size + 1, 0, 0, 0, Nat.le_refl _⟩ (by simp) (fun _ _ _ e => by cases e)
          ⟨⟨w.heap.size + 1, 0, 0, 0, Nat.le_refl _⟩, _, upd_same ρ₁ (σ.add (.dfr false)).next 0 _, by have := alloc_new (w.alloc (.deferred (some []))) (.loop { state := .ready, pending := none, fn := fnid, tmps := c.tmps, params := ps, assign, body, defers := w.heap.size }); simpa using this, rfl, rfl, rfl, rfl, rfl,
            (hA.tm.mono s1.ext).mono he2, _, he2 _ _ _ hd1, rfl⟩
        refine ⟨⟨w.heap.size + 1, 0, 0, 0, Nat.le_refl _⟩, _, _, upd ρ₁ (σ.add (.dfr false)).next 0 ⟨w.heap.size + 1, 0, 0, 0, Nat.le_refl _⟩, upd_same _ _ _ _, run_enterLoop_outer fnid c.tmps ps assign body, s1.trans hI s2, ?_⟩
        refine ⟨(hA.tm.mono s1.ext).mono he2, .cons ⟨_, he2 _ _ _ hd1, rfl⟩ ((hA.df.mono s1.ext).mono he2)⟩
      | some l₀ =>
        obtain ⟨L₀, hL₀, rfl⟩ := hro
        simp only at henter
        split at henter
        · rename_i r₀ hr₀
          simp only [Option.some.injEq, Prod.mk.injEq] at henter
          obtain ⟨rfl, rfl, rfl⟩ := henter
          obtain ⟨hg₀, L₀', r₀', e1, e2, _, _, _, _, _, _, D, d1, d2⟩ := loop_get hI hr₀
          rw [hL₀] at e1; cases e1
          have hno : ρ σ.next 0 = none := (hI.fresh σ.next (Nat.le_refl _)).2 0
          have he := upd_ext (L := ⟨w.heap.size, 0, 0, 0, Nat.le_refl _⟩) hno
          have s1 := Step.add hI (.loop { state := .ready, pending := none, tm := a, params := ps.toList, assign, body, dfr := r₀.dfr })
            (.loop { state := .ready, pending := none, fn := fnid, tmps := c.tmps, params := ps, assign, body, defers := r₀'.defers }) ⟨w.heap.size, 0, 0, 0, Nat.le_refl _⟩ rfl (fun _ _ _ e => by cases e)
            ⟨⟨w.heap.size, 0, 0, 0, Nat.le_refl _⟩, _, upd_same ρ σ.next 0 _, alloc_new _ _, rfl, rfl, rfl, rfl, rfl, hA.tm.mono he, D, he _ _ _ d1, d2⟩
          refine ⟨⟨w.heap.size, 0, 0, 0, Nat.le_refl _⟩, [], _, _, upd_same _ _ _ _, ?_, s1, by simpa using hA.mono he⟩
          unfold Instr.enterLoop
          simp only [Sem.run_bind, run_getLoop e2, Result.andThen_ok, Sem.run_pure, run_newObj_alloc]
        · cases henter
    -- the one call
    split at h
    · rename_i g args hcal
      split at h
      · rename_i fn hsum hfn
        have rs : VRels w0 ρ₁ [.yld l] (#[Value.func (.yield L.blk) #[] #[]] : Array Value).toList := .cons (.yld hl) .nil
        rcases callee_rel ((opd_rel hE hA.tm f).mono hst.ext) rs hcal with ⟨g', l', first, cap, e1, e2, e3⟩ | ⟨o', L', e1, _⟩
        · cases e1
          have hres : (resolve c.eval (rangeCall f L.blk) 0).run E.P w₁ = .ok ⟨.fn (.func g) cap, first ++ #[Value.func (.yield L.blk) #[] #[]]⟩ w₁ := by
            have hev : c.eval (.const (.func (.yield L.blk) #[] #[])) = .func (.yield L.blk) #[] #[] := rfl
            simp [resolve, Deferred.ofValue, e2, hev]
          refine ⟨L.blk, mark, w₁, _, w₁, g, _, w₁, hrun, hres, fun _ _ => trivial, run_callFunc hE hfn _ _, ff_depth, ?_⟩
          refine calls_ff ?_
          split at h
          · rename_i x σ₂ hk
            refine (hK.call g args σ' _ hk ρ₁ w₁ _ hst.inv e3).mono fun e w₃ he => ?_
            obtain ⟨ρ₂, s2, y, rfl, hy⟩ := he
            split at h
            · rename_i r₂ hr₂
              split at h
              · cases h
              · rename_i hbusy
                obtain ⟨hg₂, L₂, r₂', f1, f2, f3, f4, f5, f6, f7, f8, f9⟩ := loop_get s2.inv hr₂
                have hLL : L₂ = L := by have := s2.ext _ _ _ hl; rw [f1] at this; cases this; rfl
                subst hLL
                have hend := run_endLoop (P := E.P) f2 (fun e => hbusy (by rw [← f3, e]; rfl))
                have s3 := loop_put s2.inv hg₂ f1 f5 f6 f7 f8 f9 .exhausted r₂.pending
                have hA₂ : ARel w0 ρ₂ a' { c with defers := mark ++ c.defers } := hA'.mono s2.ext
                have hstep := (hst.trans hI s2).trans hI s3
                refine ⟨r₂'.pending, _, hend, ?_⟩
                have e3 : ({ r₂' with state := .exhausted } : Loop) = { r₂' with state := .exhausted, pending := r₂.pending } := by rw [← f4]
                rw [e3]
                generalize hW : w₃.putObj L₂.blk (.loop { r₂' with state := .exhausted, pending := r₂.pending }) = W₄ at hstep ⊢
                rw [f4]
                split at h
                · rename_i hpd
                  cases h
                  rw [hpd] at hstep ⊢
                  exact ⟨ρ₂, hstep, hA₂, rfl⟩
                · rename_i cd hpd
                  simp only [Option.map_eq_some_iff] at h
                  obtain ⟨ex, hj, rfl⟩ := h
                  rw [hpd] at hstep ⊢
                  exact jump_sim hj hstep hA₂ (fun _ _ _ hx => hx)
            · cases h
          · rename_i x σ₂ hk
            cases h
            refine (hK.call g args σ' _ hk ρ₁ w₁ _ hst.inv e3).mono fun e w₃ he => ?_
            obtain ⟨ρ₂, s2, y, rfl, hy⟩ := he
            exact ⟨ρ₂, hst.trans hI s2, hA'.mono s2.ext, y, rfl, hy⟩
          · cases h
        · cases e1
      · cases h
    · cases h

theorem hasDefer_not {ops : Array Oper} (h : hasDefer ops = false) : ∀ o ∈ ops.toList, ∀ q, o.op ≠ .defer q := fun o ho q e => by
  unfold hasDefer at h
  rw [List.any_eq_false] at h
  have := h o ho
  rw [e] at this; simp at this

/-- Code, in the model's calculus. -/
theorem code_sim (hE : EnvOk E w0) (hex : ∀ f S, E.sum f = some S → ∃ fn, E.fn f = some fn) (hK : KontOk E w0 K) (hD : RegionOk E w0 K) {N : Nat} {ro rl : Option Nat} :
    ∀ (cd : Code) (a : AFr) (σ : St) (r : AExit × AFr × St), codeA K E N ro cd a σ = some r → ∀ (ρ : Asg) (c : Act) (w : World), Inv w0 ρ σ w → ARel w0 ρ a c → RoOk ρ ro rl →
      cd.wpIn (FF rl) 0 E.P (ExitOk w0 ρ σ w r) c w
  | .skip, a, σ, r, h, ρ, c, w, hI, hA, hro => by
    simp only [codeA] at h; cases h; exact wpIn_skip ⟨ρ, Step.refl hI, hA, rfl⟩
  | .label _, a, σ, r, h, ρ, c, w, hI, hA, hro => by
    simp only [codeA] at h; cases h; exact wpIn_label ⟨ρ, Step.refl hI, hA, rfl⟩
  | .region id ops false, a, σ, r, h, ρ, c, w, hI, hA, hro => by
    simp only [codeA] at h
    split at h
    · cases h
    · rename_i hdf
      refine wpIn_region ?_
      have hd : rl = none ∨ ∀ o ∈ ops.toList, ∀ q, o.op ≠ .defer q := by
        cases ro with
        | none => exact .inl hro
        | some o =>
          right
          simp only [Option.isSome_some, Bool.true_and] at hdf
          exact hasDefer_not (by simpa using hdf)
      have := ops_sim hE hex hK (rl := rl) (ExitOk w0 ρ σ w r) ops.toList [] a σ r rfl hd h ρ c w hI hA (fun _ _ _ hx => hx)
      simpa [List.range_eq_range'] using this
  | .region id ops true, a, σ, r, h, ρ, c, w, hI, hA, hro => by
    simp only [codeA] at h
    exact hD id ops a σ r rl h ρ c w hI hA
  | .seq x y, a, σ, r, h, ρ, c, w, hI, hA, hro => by
    refine wpIn_seq ?_
    simp only [codeA] at h
    cases hx : codeA K E N ro x a σ with
    | none => rw [hx] at h; simp at h
    | some r₁ =>
      have h1 := code_sim hE hex hK hD x a σ r₁ hx ρ c w hI hA hro
      rw [hx] at h
      refine wpIn_mono h1 fun e c' w' k => ?_
      obtain ⟨e₁, a₁, σ₁⟩ := r₁
      obtain ⟨ρ', s, hA', he⟩ := k
      cases e₁ with
      | normal =>
        subst he
        simp only at h
        exact wpIn_mono (code_sim hE hex hK hD y a₁ σ₁ r h ρ' c' w' s.inv hA' (hro.mono s.ext)) fun e c'' w'' k => k.trans hI s
      | exit id => subst he; cases h; exact ⟨ρ', s, hA', rfl⟩
      | goto l => subst he; cases h; exact ⟨ρ', s, hA', rfl⟩
      | ret => subst he; cases h; exact ⟨ρ', s, hA', rfl⟩
      | panic x => obtain ⟨y, rfl, hy⟩ := he; cases h; exact ⟨ρ', s, hA', y, rfl, hy⟩
  | .cond q x y, a, σ, r, h, ρ, c, w, hI, hA, hro => by
    simp only [codeA] at h
    have hq := opd_rel hE hA.tm q
    split at h
    · rename_i hv
      rw [hv] at hq
      generalize hc : c.eval q = v at hq
      cases hq
      exact wpIn_cond_true hc (code_sim hE hex hK hD x a σ r h ρ c w hI hA hro)
    · rename_i hv
      rw [hv] at hq
      generalize hc : c.eval q = v at hq
      cases hq
      exact wpIn_cond_false hc (code_sim hE hex hK hD y a σ r h ρ c w hI hA hro)
    · cases h
  | .block id x, a, σ, r, h, ρ, c, w, hI, hA, hro => by
    refine wpIn_block ?_
    simp only [codeA] at h
    cases hx : codeA K E N ro x a σ with
    | none => rw [hx] at h; simp at h
    | some r₁ =>
      have h1 := code_sim hE hex hK hD x a σ r₁ hx ρ c w hI hA hro
      rw [hx] at h
      refine wpIn_mono h1 fun e c' w' k => ?_
      obtain ⟨e₁, a₁, σ₁⟩ := r₁
      obtain ⟨ρ', s, hA', he⟩ := k
      cases e₁ with
      | normal => subst he; cases h; exact ⟨ρ', s, hA', rfl⟩
      | exit id' =>
        subst he
        simp only [Option.some.injEq] at h
        subst h
        simp only [Exit.inBlock]
        by_cases hid : id' = id
        · rw [if_pos hid]; exact ⟨ρ', s, hA', by simp [hid]⟩
        · rw [if_neg hid]; exact ⟨ρ', s, hA', by simp [hid]⟩
      | goto l => subst he; cases h; exact ⟨ρ', s, hA', rfl⟩
      | ret => subst he; cases h; exact ⟨ρ', s, hA', rfl⟩
      | panic x => obtain ⟨y, rfl, hy⟩ := he; cases h; exact ⟨ρ', s, hA', y, rfl, hy⟩
  | .loop x, a, σ, r, h, ρ, c, w, hI, hA, hro => by
    simp only [codeA] at h
    refine wpIn_loop_rounds N ?_
    exact iter_sim (fun a σ r hf ρ' ac w hI hA hro => code_sim hE hex hK hD x a σ r hf ρ' ac w hI hA hro) N a σ r h ρ c w hI hA hro (fun _ _ _ k => k)
  | .exit id, a, σ, r, h, ρ, c, w, hI, hA, hro => by
    simp only [codeA] at h; cases h; exact wpIn_exit ⟨ρ, Step.refl hI, hA, rfl⟩
  | .goto l, a, σ, r, h, ρ, c, w, hI, hA, hro => by
    simp only [codeA] at h; cases h; exact wpIn_goto ⟨ρ, Step.refl hI, hA, rfl⟩
  | .ret, a, σ, r, h, ρ, c, w, hI, hA, hro => by
    simp only [codeA] at h; cases h; exact wpIn_ret ⟨ρ, Step.refl hI, hA, rfl⟩
  | .rangeFunc f ps assign body, a, σ, r, h, ρ, c, w, hI, hA, hro => by
    simp only [codeA] at h
    exact range_sim hE hK h hI hA hro
  | .scope x, a, σ, r, h, ρ, c, w, hI, hA, hro => by
    refine wpIn_scope' ?_
    simp only [codeA] at h
    cases hx : codeA K E N ro x a σ with
    | none => rw [hx] at h; simp at h
    | some r₁ =>
      have h1 := code_sim hE hex hK hD x a σ r₁ hx ρ c w hI hA hro
      rw [hx] at h
      refine wpIn_mono h1 fun e c' w' k => ?_
      obtain ⟨e₁, a₁, σ₁⟩ := r₁
      obtain ⟨ρ', s, hA', he⟩ := k
      cases e₁ with
      | normal => subst he; cases h; exact ⟨(fun l e => by cases e), ρ', s, hA', rfl⟩
      | exit id => subst he; cases h; exact ⟨(fun l e => by cases e), ρ', s, hA', rfl⟩
      | goto l => cases h
      | ret => subst he; cases h; exact ⟨(fun l e => by cases e), ρ', s, hA', rfl⟩
      | panic x => obtain ⟨y, rfl, hy⟩ := he; cases h; exact ⟨(fun l e => by cases e), ρ', s, hA', y, rfl, hy⟩
  | .refuse _, a, σ, r, h, ρ, c, w, hI, hA, hro => by simp [codeA] at h

end
end Go.Ai
