/- The abstract interpreter: what the evaluation of a region of open order tells of each operation. Conditions: none. -/
import Derived.Test.YtfmbpdacdopkgaaGreatDoorAiDraw
namespace Go.Ai
open Go.RowKit (Below)

inductive TOut where
  | skip
  | read (x : AV)
  | made (x : AObj) (f : Nat → AV)
  | wrote (b : AFr)

/-- One operation's turn. -/
structure TStep where
  d : DOp
  a : AFr
  σ : St
  a' : AFr
  σ' : St
  out : TOut

def TStep.isW (s : TStep) : Bool :=
  match s.out with
  | .wrote _ => true
  | _ => false
def TStep.makes (s : TStep) (y : AObj) : Prop := ∃ f, s.out = .made y f

def topS (σ0 : St) : List TStep → St
  | [] => σ0
  | s :: _ => s.σ'

def Base : List TStep → Prop
  | [] => True
  | s :: _ => s.isW = true

section
variable (K : Kont) (E : Env) (ops : Array Oper) (all : List DOp) (a0 : AFr) (σ0 : St)

def ReadOk (pre : List TStep) (s : TStep) (x : AV) : Prop :=
  ∀ mid B, pre = mid ++ B → Base B → (∀ q ∈ mid, q.isW = true → s.d.bef.testBit q.d.i = false) →
    ∃ σ₁ : St, (∀ o y, σ₁.get o = some y → (topS σ0 B).get o = some y ∨ ∃ q ∈ mid, q.makes y ∧ q.σ.next = o ∧ s.d.bef.testBit q.d.i = true) ∧
      readA E (dim s.d all s.a) σ₁ s.d.o = some x

def OutOk (pre : List TStep) (s : TStep) : TOut → Prop
  | .skip => wantedA ops (dim s.d all s.a) s.d.o = some false ∧ s.a.put s.d.o.dst (.v undef) = some s.a' ∧ s.σ' = s.σ
  | .read x => wantedA ops (dim s.d all s.a) s.d.o = some true ∧ s.a.put s.d.o.dst x = some s.a' ∧ s.σ' = s.σ ∧ ReadOk E all σ0 pre s x
  | .made x f => wantedA ops (dim s.d all s.a) s.d.o = some true ∧ s.a.put s.d.o.dst (f s.σ.next) = some s.a' ∧ s.σ' = s.σ.add x ∧ allocA E (dim s.d all s.a) s.d.o = some (x, f)
  | .wrote b => (∀ q ∈ pre, s.d.bef.testBit q.d.i = true) ∧ oneA K E ops (dim s.d all s.a) s.σ s.d.o = some (none, b, s.σ') ∧ b.df.length = s.a.df.length ∧
      s.a.put s.d.o.dst (match s.d.o.dst with | some t => b.get t | none => .top) = some s.a'

structure StepV (pre : List TStep) (s : TStep) : Prop where
  mem : s.d ∈ all
  bef : ∀ x, s.d.bef.testBit x = true → ∃ q ∈ pre, q.d.i = x
  new : ∀ q ∈ pre, q.d.i ≠ s.d.i
  next : s.σ.next ≤ s.σ'.next
  put : ∃ v, s.a.put s.d.o.dst v = some s.a'
  out : OutOk K E ops all σ0 pre s s.out

inductive Run : List TStep → AFr → St → Prop
  | nil : Run [] a0 σ0
  | cons {pre : List TStep} {s : TStep} (h : Run pre s.a s.σ) (hv : StepV K E ops all σ0 pre s) : Run (s :: pre) s.a' s.σ'
end

def summ (s : TStep) : Past :=
  match s.out with
  | .made x _ => .made s.d.i s.σ.next x
  | .wrote _ => .wrote s.d.i s.σ'
  | _ => .other

section
variable {K : Kont} {E : Env} {ops : Array Oper} {all : List DOp} {a0 : AFr} {σ0 : St}

theorem adds_get : ∀ (adds : List (Nat × AObj)) (τ : St) (o : Nat) (y : AObj), (adds.foldl (fun σ p => σ.set p.1 p.2) τ).get o = some y → τ.get o = some y ∨ (o, y) ∈ adds
  | [], τ, o, y, h => .inl h
  | p :: rest, τ, o, y, h => by
    rw [List.foldl_cons] at h
    rcases adds_get rest _ o y h with h | h
    · by_cases hp : p.1 = o
      · subst hp; rw [St.get_set_same] at h; cases h; exact .inr (by simp)
      · rw [St.get_set_ne _ _ _ _ hp] at h; exact .inl h
    · exact .inr (by simp [h])

theorem chk_spec {b : AFr} {d : DOp} {x : AV} {τ : St} {adds : List (Nat × AObj)} (h : chk E b d x τ adds = true) : readA E b (adds.foldl (fun σ p => σ.set p.1 p.2) τ) d.o = some x := by
  unfold chk at h
  split at h
  · rename_i y hy; rw [AV.beq_eq h]; exact hy
  · cases h

theorem sameIn_spec {b : AFr} {d : DOp} {x : AV} : ∀ (pre : List TStep) (adds : List (Nat × AObj)), sameIn E b d x σ0 (pre.map summ) adds = true →
    ∀ mid B, pre = mid ++ B → Base B → (∀ q ∈ mid, q.isW = true → d.bef.testBit q.d.i = false) →
    ∃ σ₁ : St, (∀ o y, σ₁.get o = some y → (topS σ0 B).get o = some y ∨ (o, y) ∈ adds ∨ ∃ q ∈ mid, q.makes y ∧ q.σ.next = o ∧ d.bef.testBit q.d.i = true) ∧ readA E b σ₁ d.o = some x
  | [], adds, h, mid, B, e, hB, hm => by
    obtain ⟨rfl, rfl⟩ := List.append_eq_nil_iff.1 e.symm
    simp only [List.map_nil, sameIn] at h
    exact ⟨_, fun o y k => (adds_get adds σ0 o y k).imp id .inl, chk_spec h⟩
  | s :: pre, adds, h, [], B, e, hB, hm => by
    simp only [List.nil_append] at e
    subst e
    have hW : s.isW = true := hB
    obtain ⟨sd, sa, sσ, sa', sσ', so⟩ := s
    cases so with
    | wrote b' =>
      simp only [List.map_cons, summ, sameIn, Bool.and_eq_true] at h
      exact ⟨_, fun o y k => (adds_get adds sσ' o y k).imp id .inl, chk_spec h.1⟩
    | _ => cases hW
  | s :: pre, adds, h, q :: mid, B, e, hB, hm => by
    simp only [List.cons_append, List.cons.injEq] at e
    obtain ⟨rfl, e⟩ := e
    have hm' : ∀ q ∈ mid, q.isW = true → d.bef.testBit q.d.i = false := fun q hq => hm q (by simp [hq])
    have up : ∀ adds', (∀ o y, (o, y) ∈ adds' → (o, y) ∈ adds ∨ (s.makes y ∧ s.σ.next = o ∧ d.bef.testBit s.d.i = true)) → sameIn E b d x σ0 (pre.map summ) adds' = true →
        ∃ σ₁ : St, (∀ o y, σ₁.get o = some y → (topS σ0 B).get o = some y ∨ (o, y) ∈ adds ∨ ∃ q ∈ s :: mid, q.makes y ∧ q.σ.next = o ∧ d.bef.testBit q.d.i = true) ∧ readA E b σ₁ d.o = some x := by
      intro adds' ha h'
      obtain ⟨σ₁, h1, h2⟩ := sameIn_spec pre adds' h' mid B e hB hm'
      refine ⟨σ₁, fun o y k => ?_, h2⟩
      rcases h1 o y k with k | k | ⟨q, hq, k⟩
      · exact .inl k
      · rcases ha o y k with k | k
        · exact .inr (.inl k)
        · exact .inr (.inr ⟨s, by simp, k⟩)
      · exact .inr (.inr ⟨q, by simp [hq], k⟩)
    cases so : s.out with
    | wrote b' =>
      have hs : summ s = .wrote s.d.i s.σ' := by simp [summ, so]
      simp only [List.map_cons, hs, sameIn, Bool.and_eq_true, Bool.or_eq_true] at h
      have hf := hm s (by simp) (by simp [TStep.isW, so])
      rw [hf] at h
      exact up adds (fun o y k => .inl k) (by simpa using h.2)
    | made y f =>
      have hs : summ s = .made s.d.i s.σ.next y := by simp [summ, so]
      simp only [List.map_cons, hs, sameIn] at h
      refine up _ (fun o z k => ?_) h
      split at k
      · rename_i hb
        rcases List.mem_cons.1 k with k | k
        · cases k; exact .inr ⟨⟨f, so⟩, rfl, hb⟩
        · exact .inl k
      · exact .inl k
    | skip =>
      have hs : summ s = .other := by simp [summ, so]
      simp only [List.map_cons, hs, sameIn] at h
      exact up adds (fun o y k => .inl k) h
    | read y =>
      have hs : summ s = .other := by simp [summ, so]
      simp only [List.map_cons, hs, sameIn] at h
      exact up adds (fun o y k => .inl k) h

/-- The evaluation, told step by step. -/
theorem draw_run : ∀ (order : List DOp) (done : Nat) (pre : List TStep) (a : AFr) (σ : St) (r : AExit × AFr × St), drawA K E ops all σ0 order done (pre.map summ) a σ = some r →
    Run K E ops all a0 σ0 pre a σ → (∀ d ∈ order, d ∈ all) → (∀ x, done.testBit x = true ↔ ∃ q ∈ pre, q.d.i = x) →
    (∃ L a' σ', Run K E ops all a0 σ0 L a' σ' ∧ r = (.normal, a', σ') ∧ ∀ d ∈ all, ∃ q ∈ L, q.d.i = d.i) ∨
    (∃ L d a₁ σ₁ x b σ', Run K E ops all a0 σ0 L a₁ σ₁ ∧ d ∈ all ∧ (∀ x, d.bef.testBit x = true ↔ ∃ q ∈ L, q.d.i = x) ∧ (∀ q ∈ L, q.d.i ≠ d.i) ∧
      oneA K E ops (dim d all a₁) σ₁ d.o = some (some x, b, σ') ∧ (∀ c ∈ all, unord d c = false) ∧ r = (.panic x, topped all a₁, σ'))
  | [], done, pre, a, σ, r, h, hr, ho, hd => by
    simp only [drawA] at h
    split at h
    · rename_i hall
      cases h
      exact .inl ⟨pre, a, σ, hr, rfl, fun d hda => (hd d.i).1 (by simpa using List.all_eq_true.1 hall d hda)⟩
    · cases h
  | d :: rest, done, pre, a, σ, r, h, hr, ho, hd => by
    have hrest : ∀ d ∈ rest, d ∈ all := fun d hd => ho d (by simp [hd])
    have hmem : d ∈ all := ho d (by simp)
    simp only [drawA] at h
    split at h
    · cases h
    · rename_i hc
      simp only [Bool.or_eq_true, bne_iff_ne, ne_eq, not_or, Bool.not_eq_true, Decidable.not_not] at hc
      obtain ⟨hc1, hc2⟩ := hc
      have hbef : ∀ x, d.bef.testBit x = true → ∃ q ∈ pre, q.d.i = x := fun x hx => (hd x).1 (by
        rw [← hc2, Nat.testBit_and, Bool.and_eq_true] at hx; exact hx.2)
      have hnew : ∀ q ∈ pre, q.d.i ≠ d.i := fun q hq e => by
        have := (hd d.i).2 ⟨q, hq, e⟩; rw [hc1] at this; cases this
      have hdone : ∀ (s : TStep), s.d = d → ∀ x, (done ||| 2 ^ d.i).testBit x = true ↔ ∃ q ∈ s :: pre, q.d.i = x := fun s hs x => by
        simp only [Nat.testBit_or, Nat.testBit_two_pow, Bool.or_eq_true, decide_eq_true_eq, hd x, List.mem_cons]
        constructor
        · rintro (⟨q, h1, h2⟩ | h)
          · exact ⟨q, .inr h1, h2⟩
          · exact ⟨s, .inl rfl, by rw [hs]; exact h⟩
        · rintro ⟨q, rfl | h1, h2⟩
          · right; rw [← hs]; exact h2
          · exact .inl ⟨q, h1, h2⟩
      split at h
      · cases h
      · rename_i hw
        split at h
        · rename_i a' ha
          exact draw_run rest _ (⟨d, a, σ, a', σ, .skip⟩ :: pre) a' σ r h (.cons (s := ⟨d, a, σ, a', σ, .skip⟩) hr ⟨hmem, hbef, hnew, Nat.le_refl _, ⟨_, ha⟩, hw, ha, rfl⟩) hrest (hdone _ rfl)
        · cases h
      · rename_i hw
        split at h
        · split at h
          · rename_i x f hx
            split at h
            · rename_i a' ha
              exact draw_run rest _ (⟨d, a, σ, a', σ.add x, .made x f⟩ :: pre) a' (σ.add x) r h (.cons (s := ⟨d, a, σ, a', σ.add x, .made x f⟩) hr ⟨hmem, hbef, hnew, Nat.le_succ _, ⟨_, ha⟩, hw, ha, rfl, hx⟩) hrest (hdone _ rfl)
            · cases h
          · cases h
        · split at h
          · rename_i x hx
            split at h
            · rename_i hs
              split at h
              · rename_i a' ha
                refine draw_run rest _ (⟨d, a, σ, a', σ, .read x⟩ :: pre) a' σ r h (.cons (s := ⟨d, a, σ, a', σ, .read x⟩) hr ⟨hmem, hbef, hnew, Nat.le_refl _, ⟨_, ha⟩, hw, ha, rfl, fun mid B e hB hm => ?_⟩) hrest (hdone _ rfl)
                obtain ⟨σ₁, h1, h2⟩ := sameIn_spec pre [] hs mid B e hB hm
                exact ⟨σ₁, fun o y k => (h1 o y k).imp id fun k => k.resolve_left (by simp), h2⟩
              · cases h
            · cases h
          · cases h
        · split at h
          · cases h
          · rename_i hdb
            simp only [bne_iff_ne, ne_eq, Decidable.not_not] at hdb
            split at h
            · rename_i b σ' hone
              split at h
              · rename_i hn
                simp only [Bool.and_eq_true, decide_eq_true_eq, beq_iff_eq] at hn
                split at h
                · rename_i a' ha
                  exact draw_run rest _ (⟨d, a, σ, a', σ', .wrote b⟩ :: pre) a' σ' r h (.cons (s := ⟨d, a, σ, a', σ', .wrote b⟩) hr
                    ⟨hmem, hbef, hnew, hn.1, ⟨_, ha⟩, fun q hq => by rw [← hdb]; exact (hd _).2 ⟨q, hq, rfl⟩, hone, hn.2, ha⟩) hrest (hdone _ rfl)
                · cases h
              · cases h
            · rename_i x b σ' hone
              split at h
              · rename_i hu
                cases h
                exact .inr ⟨pre, d, a, σ, x, b, σ', hr, hmem, fun x => by rw [← hdb]; exact hd x, hnew, hone, fun c hc => by simpa using List.all_eq_true.1 hu c hc, rfl⟩
              · cases h
            · cases h

theorem Run.top {L : List TStep} {a : AFr} {σ : St} (h : Run K E ops all a0 σ0 L a σ) : topS σ0 L = σ := by cases h <;> rfl

theorem Run.tail {s : TStep} {L : List TStep} {a : AFr} {σ : St} (h : Run K E ops all a0 σ0 (s :: L) a σ) : Run K E ops all a0 σ0 L s.a s.σ ∧ StepV K E ops all σ0 L s ∧ a = s.a' ∧ σ = s.σ' := by
  cases h with
  | cons h hv => exact ⟨h, hv, rfl, rfl⟩

theorem Run.drop : ∀ {R B : List TStep} {a : AFr} {σ : St}, Run K E ops all a0 σ0 (R ++ B) a σ → ∃ a₁ σ₁, Run K E ops all a0 σ0 B a₁ σ₁
  | [], _, _, _, h => ⟨_, _, h⟩
  | _ :: _, _, _, _, h => Run.drop (Run.tail h).1

theorem Run.at {post pre : List TStep} {s : TStep} {a : AFr} {σ : St} (h : Run K E ops all a0 σ0 (post ++ s :: pre) a σ) : Run K E ops all a0 σ0 pre s.a s.σ ∧ StepV K E ops all σ0 pre s := by
  obtain ⟨a₁, σ₁, h1⟩ := h.drop
  exact ⟨(Run.tail h1).1, (Run.tail h1).2.1⟩

theorem Run.next : ∀ {R B : List TStep} {a : AFr} {σ : St}, Run K E ops all a0 σ0 (R ++ B) a σ → (topS σ0 B).next ≤ σ.next ∧ ∀ s ∈ R, (topS σ0 B).next ≤ s.σ.next ∧ s.σ'.next ≤ σ.next
  | [], B, a, σ, h => by rw [Run.top (L := B) h]; exact ⟨Nat.le_refl _, fun s hs => by simp at hs⟩
  | q :: R, B, a, σ, h => by
    obtain ⟨h1, hv, rfl, rfl⟩ := Run.tail h
    obtain ⟨k1, k2⟩ := Run.next h1
    refine ⟨Nat.le_trans k1 hv.next, fun s hs => ?_⟩
    rcases List.mem_cons.1 hs with rfl | hs
    · exact ⟨k1, Nat.le_refl _⟩
    · exact ⟨(k2 s hs).1, Nat.le_trans (k2 s hs).2 hv.next⟩

theorem Run.mono {L : List TStep} {a : AFr} {σ : St} (h : Run K E ops all a0 σ0 L a σ) : σ0.next ≤ σ.next ∧ ∀ s ∈ L, s.σ'.next ≤ σ.next := by
  have := Run.next (R := L) (B := []) (by simpa using h)
  exact ⟨this.1, fun s hs => (this.2 s hs).2⟩

theorem steps_mem {L : List TStep} {s : TStep} (hs : s ∈ L) : ∃ post pre, L = post ++ s :: pre := List.append_of_mem hs

theorem Run.uniq : ∀ {L : List TStep} {a : AFr} {σ : St}, Run K E ops all a0 σ0 L a σ → ∀ s ∈ L, ∀ q ∈ L, s.d.i = q.d.i → s = q
  | [], _, _, _, s, hs, _, _, _ => by simp at hs
  | x :: L, a, σ, h, s, hs, q, hq, e => by
    obtain ⟨h1, hv, _, _⟩ := Run.tail h
    rcases List.mem_cons.1 hs with k1 | k1 <;> rcases List.mem_cons.1 hq with k2 | k2
    · rw [k1, k2]
    · subst k1; exact absurd e.symm (hv.new q k2)
    · subst k2; exact absurd e (hv.new s k1)
    · exact Run.uniq h1 s k1 q k2 e

theorem Run.inAll : ∀ {L : List TStep} {a : AFr} {σ : St}, Run K E ops all a0 σ0 L a σ → ∀ s ∈ L, s.d ∈ all
  | [], _, _, _, s, hs => by simp at hs
  | x :: L, a, σ, h, s, hs => by
    obtain ⟨h1, hv, _, _⟩ := Run.tail h
    rcases List.mem_cons.1 hs with rfl | k
    · exact hv.mem
    · exact Run.inAll h1 s k

theorem AFr.put_n {a a' : AFr} {d : Option Tmp} {x : AV} (h : a.put d x = some a') : a'.n = a.n := by
  unfold AFr.put at h
  split at h
  · cases h; rfl
  · split at h
    · cases h; rfl
    · cases h

theorem Run.frame : ∀ {L : List TStep} {a : AFr} {σ : St}, Run K E ops all a0 σ0 L a σ → a.n = a0.n ∧ a.df = a0.df
  | [], _, _, h => by cases h; exact ⟨rfl, rfl⟩
  | x :: L, a, σ, h => by
    obtain ⟨h1, hv, rfl, rfl⟩ := Run.tail h
    obtain ⟨v, hp⟩ := hv.put
    obtain ⟨k1, k2⟩ := Run.frame h1
    exact ⟨(AFr.put_n hp).trans k1, (AFr.put_df hp).trans k2⟩

theorem AFr.put_get {a a' : AFr} {d : Option Tmp} {x : AV} (h : a.put d x = some a') (t : Nat) : (d = some t → a'.get t = x) ∧ (d ≠ some t → a'.get t = a.get t) := by
  unfold AFr.put at h
  split at h
  · cases h; exact ⟨fun e => (by cases e), fun _ => rfl⟩
  · rename_i t'
    split at h
    · cases h
      refine ⟨fun e => ?_, fun e => ?_⟩
      · cases e; exact AFr.get_set_same _ _ _
      · exact AFr.get_set_ne _ _ _ _ fun e' => e (by rw [e'])
    · cases h

theorem Run.get (hdst : (all.filterMap (·.o.dst)).Nodup) : ∀ {L : List TStep} {a : AFr} {σ : St}, Run K E ops all a0 σ0 L a σ → ∀ t, (∀ s ∈ L, s.d.o.dst = some t → a.get t = s.a'.get t) ∧ ((∀ s ∈ L, s.d.o.dst ≠ some t) → a.get t = a0.get t)
  | [], _, _, h, t => by cases h; exact ⟨fun s hs => by simp at hs, fun _ => rfl⟩
  | x :: L, a, σ, h, t => by
    obtain ⟨h1, hv, rfl, rfl⟩ := Run.tail h
    obtain ⟨v, hp⟩ := hv.put
    obtain ⟨k1, k2⟩ := Run.get hdst h1 t
    refine ⟨fun s hs e => ?_, fun e => ?_⟩
    · rcases List.mem_cons.1 hs with rfl | hs
      · rfl
      · have hne : x.d.o.dst ≠ some t := fun e' => by
          have := dst_inj hdst s.d (Run.inAll h1 s hs) x.d hv.mem t e e'
          exact hv.new s hs (by rw [this])
        rw [(AFr.put_get hp t).2 hne]; exact k1 s hs e
    · rw [(AFr.put_get hp t).2 (e x (by simp))]; exact k2 fun s hs => e s (by simp [hs])

theorem Run.made_next {pre : List TStep} {s : TStep} (hv : StepV K E ops all σ0 pre s) {y : AObj} (h : s.makes y) : s.σ' = s.σ.add y := by
  obtain ⟨f, hf⟩ := h
  have := hv.out
  rw [hf] at this
  exact this.2.2.1

theorem Run.objs : ∀ {R B : List TStep} {a : AFr} {σ : St}, Run K E ops all a0 σ0 (R ++ B) a σ → (∀ s ∈ R, s.isW = false) → ∀ o y, σ.get o = some y → (topS σ0 B).get o = some y ∨ ∃ s ∈ R, s.makes y ∧ s.σ.next = o
  | [], B, a, σ, h, _, o, y, e => by rw [Run.top (L := B) h]; exact .inl e
  | q :: R, B, a, σ, h, hw, o, y, e => by
    obtain ⟨h1, hv, rfl, rfl⟩ := Run.tail h
    have ih := Run.objs h1 (fun s hs => hw s (by simp [hs])) o y
    have hout := hv.out
    have keep : q.σ' = q.σ → (topS σ0 B).get o = some y ∨ ∃ s ∈ q :: R, s.makes y ∧ s.σ.next = o := fun k => by
      rw [k] at e
      exact (ih e).imp id fun ⟨s, h1, h2⟩ => ⟨s, by simp [h1], h2⟩
    cases ho : q.out with
    | skip => rw [ho] at hout; exact keep hout.2.2
    | read x => rw [ho] at hout; exact keep hout.2.2.1
    | made x f =>
      rw [ho] at hout
      rw [hout.2.2.1] at e
      by_cases hq : q.σ.next = o
      · subst hq
        rw [St.get_add_same] at e; cases e
        exact .inr ⟨q, by simp, ⟨f, ho⟩, rfl⟩
      · rw [St.get_add_ne _ _ _ hq] at e
        exact (ih e).imp id fun ⟨s, h1, h2⟩ => ⟨s, by simp [h1], h2⟩
    | wrote b => have := hw q (by simp); simp [TStep.isW, ho] at this

theorem eager_mem (E : Env) (all : List DOp) : ∀ (l : List DOp) (done : Nat), (∀ d ∈ l, d ∈ all) → ∀ d ∈ eager E all l done, d ∈ all
  | [], done, _, d, h => by simp only [eager] at h; exact (List.mem_filter.1 h).1
  | w :: rest, done, hl, d, h => by
    simp only [eager] at h
    split at h
    · rcases List.mem_append.1 h with h | h
      · exact (List.mem_filter.1 h).1
      · rcases List.mem_cons.1 h with rfl | h
        · exact hl d (by simp)
        · exact eager_mem E all rest _ (fun d hd => hl d (by simp [hd])) d h
    · exact eager_mem E all rest _ (fun d hd => hl d (by simp [hd])) d h
end
end Go.Ai
