/- The abstract interpreter: regions of open order are sound, joined. Conditions: the environment tells the truth of the program. -/
import Derived.Test.YtfmbpdacdopkgaaGreatDoorAiDraw3
namespace Go.Ai
open Go.RowKit (Below)

section
variable {K : Kont} {E : Env} {ops : Array Oper} {all : List DOp} {a0 : AFr} {σ0 : St} {w0 : World} {ρ0 ρ : Asg} {ws w : World} {c0 c : Act} {L : List TStep} {listed : Array Bool} {R B : List TStep} {aE : AFr} {σE : St}

theorem op_value {rl : Option Nat} {Q : Exit → Act → World → Prop} {i : Nat} {o : Oper} {y : Value} {w' : World} {next : Act → World → Prop} (hi : ops[i]? = some o) (hd : ∀ q, o.op ≠ .defer q) (hw : Region.wanted o (yielded ops c.tmps) = true)
    (hr : (execOp c.eval o).run E.P w = .ok (.value y) w') (h : next (c.put o.dst y) w') : wpOpIn (FF rl) 0 E.P ops Q i next c w := by
  simp only [wpOpIn, hi, hw, if_true]
  refine ⟨fun f _ => trivial, ?_⟩
  rw [Oper.semAt_eq _ _ _ hd, hr]
  exact h

theorem op_skip {rl : Option Nat} {Q : Exit → Act → World → Prop} {i : Nat} {o : Oper} {next : Act → World → Prop} (hi : ops[i]? = some o) (hw : Region.wanted o (yielded ops c.tmps) = false)
    (h : next (c.put o.dst undef) w) : wpOpIn (FF rl) 0 E.P ops Q i next c w := by
  simp only [wpOpIn, hi, hw]
  exact ⟨fun f _ => trivial, h⟩

structure SInv (w0 : World) (ops : Array Oper) (all : List DOp) (a0 : AFr) (σ0 : St) (ρ0 : Asg) (ws : World) (c0 : Act) (L : List TStep) (listed : Array Bool) (ρ : Asg) (R B : List TStep) (c : Act) (w : World) : Prop where
  l : LInv ops all L listed R B
  t : TInv w0 a0 ρ0 c0 L listed ρ c
  h : HInv w0 σ0 ρ0 ws listed ρ R B w

theorem oldest {P : TStep → Prop} : ∀ {L : List TStep}, (∃ s ∈ L, ¬ P s) → ∃ post s pre, L = post ++ s :: pre ∧ ¬ P s ∧ ∀ q ∈ pre, P q
  | [], ⟨s, h, _⟩ => by simp at h
  | x :: L, ⟨s, h, hs⟩ => by
    by_cases hex : ∃ s ∈ L, ¬ P s
    · obtain ⟨post, s', pre, e, h1, h2⟩ := oldest hex
      exact ⟨x :: post, s', pre, by rw [e]; simp, h1, h2⟩
    · have hall : ∀ q ∈ L, P q := fun q hq => Classical.byContradiction fun k => hex ⟨q, hq, k⟩
      rcases List.mem_cons.1 h with rfl | h
      · exact ⟨[], s, L, by simp, hs, hall⟩
      · exact absurd (hall s h) hs

theorem split_at (hl : LInv ops all L listed R B) {s : TStep} (hs : s ∈ L) (hn : ¬ InS listed s.d.i) : ∃ R2 R1, R = R2 ++ s :: R1 := by
  rw [hl.split] at hs
  rcases List.mem_append.1 hs with h | h
  · exact List.append_of_mem h
  · exact absurd (hl.inB s h) hn

/-- One step of the region, done when it comes to be ready. -/
theorem step_any (hE : EnvOk E w0) (hex : ∀ f S, E.sum f = some S → ∃ fn, E.fn f = some fn) (hK : KontOk E w0 K) (hok : DopsOk ops all) (hdst : (all.filterMap (·.o.dst)).Nodup) (hdef : hasDefer ops = false)
    (hI0 : Inv w0 ρ0 σ0 ws) (hdf0 : DRel w0 ρ0 a0.df c0.defers) (hrun : Run K E ops all a0 σ0 L aE σE) (H : SInv w0 ops all a0 σ0 ρ0 ws c0 L listed ρ R B c w) {rl : Option Nat} (Q : Exit → Act → World → Prop) {s : TStep} (hs : s ∈ L)
    (hsize : s.d.i < listed.size) (hn : ¬ InS listed s.d.i) (hb : ∀ x, s.d.bef.testBit x = true → InS listed x) (next : Act → World → Prop)
    (hnext : ∀ ρ' R' B' c' w', SInv w0 ops all a0 σ0 ρ0 ws c0 L (listed.setIfInBounds s.d.i true) ρ' R' B' c' w' → next c' w') : wpOpIn (FF rl) 0 E.P ops Q s.d.i next c w := by
  obtain ⟨R2, R1, hR⟩ := split_at H.l hs hn
  have hLs : L = R2 ++ s :: (R1 ++ B) := by rw [H.l.split, hR]; simp
  obtain ⟨hpre, hv⟩ := Run.at (hLs ▸ hrun)
  have hF := H.t.frel hdst hrun (fun o k Lc e => hI0.dom e) H.h.ext H.l hLs hn hb
  have hi : ops[s.d.i]? = some s.d.o := hok.op _ hv.mem
  have hnd : ∀ q, s.d.o.op ≠ .defer q := hasDefer_not hdef s.d.o (by
    rw [← Array.getElem?_toList] at hi
    exact List.mem_of_getElem? hi)
  have hfr := Run.frame hpre
  have hpn := Run.next hpre
  have hout := hv.out
  cases ho : s.out with
  | skip =>
    rw [ho] at hout
    obtain ⟨hw, hp, hσ⟩ := hout
    refine op_skip hi (wanted_sim hF hw) (hnext ρ R B _ w ⟨H.l.quiet hok hrun hs hsize (by simp [TStep.isW, ho]) hb, H.t.put hdst hrun hs hsize hp hfr.1 (.v undef) (Ext.refl _) rfl (by cases s.d.o.dst <;> rfl),
      H.h.quiet hrun H.l hs hsize (fun y ⟨f, e⟩ => by rw [ho] at e; cases e)⟩)
  | read x =>
    rw [ho] at hout
    obtain ⟨hw, hp, hσ, hread⟩ := hout
    obtain ⟨σ₁, h1, h2⟩ := hread R1 B rfl H.l.base (fun q hq hqw => by
      cases hh : s.d.bef.testBit q.d.i with
      | false => rfl
      | true => exact absurd (hb _ hh) (H.l.notR q (by rw [hR]; simp [hq]) hqw))
    have hold : ∀ q ∈ R1, ∀ y, q.makes y → q.σ.next < s.σ.next := fun q hq y hm => by
      obtain ⟨po, pr, hpq⟩ := steps_mem (L := R1 ++ B) (s := q) (by simp [hq])
      have hmn := Run.made_next (Run.at (hpq ▸ hpre)).2 hm
      have h2 := (hpn.2 q hq).2
      rw [hmn] at h2
      exact h2
    have hI : Inv w0 (cut ρ s.σ.next) { σ₁ with next := s.σ.next } w := (H.h.fam s.σ.next hpn.1).inv rfl fun o y e => by
      rcases h1 o y e with k | ⟨q, hq, hm, hid, hqb⟩
      · exact ⟨Nat.lt_of_lt_of_le (H.h.bound _ _ k) hpn.1, .inl k⟩
      · have := hold q hq y hm
        exact ⟨by omega, .inr ⟨q, by rw [hR]; simp [hq], hb _ hqb, hm, hid⟩⟩
    have h2' : readA E (dim s.d all s.a) { σ₁ with next := s.σ.next } s.d.o = some x := h2
    obtain ⟨y, hrun', hvr⟩ := readA_sim hE hI hF h2'
    refine op_value hi hnd (wanted_sim hF hw) hrun' (hnext ρ R B _ w ⟨H.l.quiet hok hrun hs hsize (by simp [TStep.isW, ho]) hb, H.t.put hdst hrun hs hsize hp hfr.1 (by rw [hσ]; exact hvr) (Ext.refl _) rfl (by cases s.d.o.dst <;> rfl),
      H.h.quiet hrun H.l hs hsize (fun y ⟨f, e⟩ => by rw [ho] at e; cases e)⟩)
  | made x f =>
    rw [ho] at hout
    obtain ⟨hw, hp, hσ, hal⟩ := hout
    obtain ⟨y, obj, wd, Lc, hwd, hr, hblk, hg, hnew⟩ := allocA_sim hE hF hal w
    have hno : cut ρ s.σ.next s.σ.next 0 = none := by unfold cut; rw [if_neg (by omega)]
    obtain ⟨hor, hvr⟩ := hnew s.σ.next hno
    obtain ⟨he, he2, hh'⟩ := H.h.made hrun H.l hR hsize hn ho hwd hblk hg hor
    exact op_value hi hnd (wanted_sim hF hw) hr (hnext _ R B _ _ ⟨H.l.quiet hok hrun hs hsize (by simp [TStep.isW, ho]) hb, H.t.put hdst hrun hs hsize hp hfr.1 (hvr.mono he2) he rfl (by cases s.d.o.dst <;> rfl), hh'⟩)
  | wrote b =>
    rw [ho] at hout
    obtain ⟨hbef, hone, hdfl, hp⟩ := hout
    have hin : ∀ q ∈ R1, InS listed q.d.i := fun q hq => hb _ (hbef q (by simp [hq]))
    have hR' : R = (R2 ++ [s]) ++ R1 := by rw [hR]; simp
    have hst0 := H.h.step hI0 H.l hR' hpre hin
    have hA : ARel w0 (cut ρ s.σ.next) (dim s.d all s.a) c := ⟨hF, by
      rw [(dim_n _ _ _).2, hfr.2, H.t.df]; exact hdf0.mono hst0.ext⟩
    refine one_sim hE hex hK hst0.inv hA hi (.inr hnd) hone next Q (fun _ ρ₂ c' w' hst hA' honly => ?_) (fun x y ρ' w' e => by cases e)
    obtain ⟨⟨y, hct⟩, hcd⟩ := honly
    have hcd : c'.defers = c.defers := hcd.resolve_right fun k => k (by rw [(dim_n _ _ _).2]; exact hdfl)
    obtain ⟨ρ', he, he2, hh'⟩ := H.h.wrote hI0 hrun H.l hR hsize (by simp [TStep.isW, ho]) hin hst
    have hvr : VRel w0 (cut ρ' s.σ'.next) (match s.d.o.dst with | some t => b.get t | none => .top) y := by
      cases hdd : s.d.o.dst with
      | none => exact .top _
      | some t =>
        have h1 := hA'.tm.2 t
        rw [hct, hdd] at h1
        have htn : t < c.tmps.size := by
          rw [hdd] at hp
          simp only [AFr.put] at hp
          split at hp
          · rename_i hlt; rw [H.t.size, ← hfr.1]; exact hlt
          · cases hp
        simp only [Act.put, Array.getD_eq_getD_getElem?, Array.getElem?_setIfInBounds_self, htn, if_true, Option.getD_some] at h1
        exact h1.mono he2
    refine hnext ρ' R2 (s :: (R1 ++ B)) c' w' ⟨?_, H.t.put hdst hrun hs hsize hp hfr.1 hvr he hct hcd, hh'⟩
    refine ⟨by simp [H.l.size], hLs, by simp [Base, TStep.isW, ho], fun q hq => ?_, fun q hq hqw hS => ?_, fun d hd hS x hx => ?_, fun d hd hS => ?_⟩
    · rcases List.mem_cons.1 hq with rfl | hq
      · exact (inS_set hsize _).2 (.inl rfl)
      · exact (inS_set hsize _).2 (.inr (hb _ (hbef q hq)))
    · rcases (inS_set hsize _).1 hS with e | e
      · have hqs := Run.uniq hrun q (by rw [hLs]; simp [hq]) s hs e
        subst hqs
        obtain ⟨po, pr, hpq⟩ := List.append_of_mem hq
        have hL2 : L = po ++ q :: (pr ++ q :: (R1 ++ B)) := by rw [hLs]; conv => lhs; rw [hpq]
                                                               simp
        exact (Run.at (hL2 ▸ hrun)).2.new q (by simp) rfl
      · exact H.l.notR q (by rw [hR]; simp [hq]) hqw e
    · rcases (inS_set hsize _).1 hS with e | e
      · have := hok.uniq d hd s.d hv.mem e
        rw [this] at hx
        exact (inS_set hsize _).2 (.inr (hb x hx))
      · exact (inS_set hsize _).2 (.inr (H.l.closed d hd e x hx))
    · rcases (inS_set hsize _).1 hS with e | e
      · exact ⟨s, hs, (hok.uniq d hd s.d hv.mem e).symm⟩
      · exact H.l.only d hd e

theorem ready_spec (hok : DopsOk ops all) (hl : LInv ops all L listed R B) {i : Nat} (h : i ∈ Region.ready .any ops listed) :
    ∃ d ∈ all, d.i = i ∧ i < listed.size ∧ ¬ InS listed i ∧ ∀ x, d.bef.testBit x = true → InS listed x := by
  obtain ⟨h1, o, ho, h2⟩ := mem_ready.1 h
  have hi : i < ops.size := by
    rcases Nat.lt_or_ge i ops.size with k | k
    · exact k
    · rw [Array.getElem?_eq_none k] at ho; cases ho
  obtain ⟨d, hd, rfl⟩ := hok.has i hi
  have hod : d.o = o := by have := hok.op d hd; rw [ho] at this; cases this; rfl
  refine ⟨d, hd, rfl, by rw [hl.size]; exact hi, fun k => ?_, fun x hx => ?_⟩
  · unfold InS at k
    rw [Array.getD_eq_getD_getElem?] at k h1
    cases hg : listed[d.i]? with
    | none => rw [hg] at h1; cases h1
    | some b => rw [hg] at h1 k; simp at h1 k; rw [h1] at k; cases k
  · obtain ⟨e, he, hbd, hx'⟩ := hok.bef d hd x hx
    have hS : InS listed e.on := h2 e (by rw [← hod]; exact he) hbd
    rcases hx' with rfl | ⟨d', hd', e1, e2⟩
    · exact hS
    · exact hl.closed d' hd' (by rw [e1]; exact hS) x e2

theorem ready_of (hok : DopsOk ops all) (hl : LInv ops all L listed R B) {d : DOp} (hd : d ∈ all) (hn : ¬ InS listed d.i) (hb : ∀ x, d.bef.testBit x = true → InS listed x) : d.i ∈ Region.ready .any ops listed := by
  have ho := hok.op d hd
  have hi : d.i < ops.size := by
    rcases Nat.lt_or_ge d.i ops.size with k | k
    · exact k
    · rw [Array.getElem?_eq_none k] at ho; cases ho
  refine mem_ready.2 ⟨?_, d.o, ho, fun e he hbd => hb _ (hok.edge d hd e he hbd)⟩
  have hlt : d.i < listed.size := by rw [hl.size]; exact hi
  unfold InS at hn
  rw [Array.getD_eq_getD_getElem?] at hn ⊢
  rw [Array.getElem?_eq_getElem hlt] at hn ⊢
  simpa using hn

theorem any_sim (hE : EnvOk E w0) (hex : ∀ f S, E.sum f = some S → ∃ fn, E.fn f = some fn) (hK : KontOk E w0 K) (hok : DopsOk ops all) (hdst : (all.filterMap (·.o.dst)).Nodup) (hdef : hasDefer ops = false)
    (hI0 : Inv w0 ρ0 σ0 ws) (hdf0 : DRel w0 ρ0 a0.df c0.defers) (hrun : Run K E ops all a0 σ0 L aE σE) {rl : Option Nat} (Q : Exit → Act → World → Prop)
    (hend : ∀ listed ρ R B c w, SInv w0 ops all a0 σ0 ρ0 ws c0 L listed ρ R B c w → (∀ s ∈ L, InS listed s.d.i) → Region.ready .any ops listed = [] → Q .normal c w)
    (hfin : ∀ listed ρ R B c w d next, SInv w0 ops all a0 σ0 ρ0 ws c0 L listed ρ R B c w → d ∈ all → (∀ s ∈ L, s.d.i ≠ d.i) → (∀ x, d.bef.testBit x = true → InS listed x) → wpOpIn (FF rl) 0 E.P ops Q d.i next c w) :
    ∀ (fuel : Nat) (listed : Array Bool) (ρ : Asg) (R B : List TStep) (c : Act) (w : World), SInv w0 ops all a0 σ0 ρ0 ws c0 L listed ρ R B c w → listed.toList.count false = fuel → wpAnyIn (FF rl) 0 E.P .any ops Q fuel listed c w := by
  have done : ∀ listed ρ R B c w, SInv w0 ops all a0 σ0 ρ0 ws c0 L listed ρ R B c w → Region.ready .any ops listed = [] → Q .normal c w := fun listed ρ R B c w H hr => by
    refine hend listed ρ R B c w H (fun s hs => Classical.byContradiction fun hn => ?_) hr
    obtain ⟨post, s', pre, e, h1, h2⟩ := oldest (P := fun s => InS listed s.d.i) ⟨s, hs, hn⟩
    obtain ⟨_, hv⟩ := Run.at (e ▸ hrun)
    have := ready_of hok H.l hv.mem h1 fun x hx => by
      obtain ⟨q, hq, rfl⟩ := hv.bef x hx
      exact h2 q hq
    rw [hr] at this; cases this
  intro fuel
  induction fuel with
  | zero =>
    intro listed ρ R B c w H hc
    have hr : Region.ready .any ops listed = [] := by
      cases hr : Region.ready .any ops listed with
      | nil => rfl
      | cons i rest =>
        have hi : i ∈ Region.ready .any ops listed := by rw [hr]; simp
        obtain ⟨d, hd, rfl, hlt, hn, hb⟩ := ready_spec hok H.l hi
        have h0 := List.count_eq_zero.1 hc
        exfalso
        unfold InS at hn
        rw [Array.getD_eq_getD_getElem?, Array.getElem?_eq_getElem hlt] at hn
        simp only [Option.getD_some, Bool.not_eq_true] at hn
        exact h0 (by rw [← hn]; exact (Array.getElem_mem_toList hlt))
    exact ⟨hr, done _ _ _ _ _ _ H hr⟩
  | succ fuel ih =>
    intro listed ρ R B c w H hc
    refine ⟨done _ _ _ _ _ _ H, fun i hi => ?_⟩
    obtain ⟨d, hd, rfl, hlt, hn, hb⟩ := ready_spec hok H.l hi
    have hcount : (listed.setIfInBounds d.i true).toList.count false = fuel := by
      have hf : listed[d.i] = false := by
        unfold InS at hn
        rw [Array.getD_eq_getD_getElem?, Array.getElem?_eq_getElem hlt] at hn
        simpa using hn
      rw [Array.toList_setIfInBounds, List.count_set (by simpa using hlt)]
      simp [hf]
      have := hc
      simp at this
      omega
    by_cases hin : ∃ s ∈ L, s.d.i = d.i
    · obtain ⟨s, hs, e⟩ := hin
      have hsd := hok.uniq s.d (Run.inAll hrun s hs) d hd e
      rw [← e] at hlt hn hcount ⊢
      refine step_any hE hex hK hok hdst hdef hI0 hdf0 hrun H Q hs hlt hn (by rw [hsd]; exact hb) _ fun ρ' R' B' c' w' H' => ih _ ρ' R' B' c' w' H' hcount
    · exact hfin listed ρ R B c w d _ H hd (fun s hs e => hin ⟨s, hs, e⟩) hb

/-- At the end, the frame. -/
theorem TInv.full (hdst : (all.filterMap (·.o.dst)).Nodup) (hrun : Run K E ops all a0 σ0 L aE σE) (ht : TInv w0 a0 ρ0 c0 L listed ρ c) (hin : ∀ s ∈ L, InS listed s.d.i) (hext : Ext ρ0 (cut ρ σE.next)) : FRel w0 (cut ρ σE.next) aE c.tmps := by
  refine ⟨by rw [(Run.frame hrun).1]; exact ht.size, fun t => ?_⟩
  by_cases hex : ∃ q ∈ L, q.d.o.dst = some t
  · obtain ⟨q, hq, hqd⟩ := hex
    rw [(Run.get hdst hrun t).1 q hq hqd]
    exact (ht.done t q hq (hin q hq) hqd).mono (cut_mono (Ext.refl _) ((Run.mono hrun).2 q hq))
  · rw [(Run.get hdst hrun t).2 fun q hq e => hex ⟨q, hq, e⟩]
    exact (ht.rest t fun q hq _ e => hex ⟨q, hq, e⟩).mono hext

/-- Nothing is done yet. -/
theorem start_any (hI : Inv w0 ρ0 σ0 w) {c : Act} (hA : FRel w0 ρ0 a0 c.tmps) (L : List TStep) : SInv w0 ops all a0 σ0 ρ0 w c L (Array.replicate ops.size false) ρ0 L [] c w := by
  have hno : ∀ x, ¬ InS (Array.replicate ops.size false) x := fun x k => by
    unfold InS at k
    rw [Array.getD_eq_getD_getElem?, Array.getElem?_replicate] at k
    split at k <;> cases k
  refine ⟨⟨by simp, by simp, trivial, fun s hs => by simp at hs, fun s _ _ => hno _, fun d _ k => absurd k (hno _), fun d _ k => absurd k (hno _)⟩,
    ⟨hA.1, fun t s _ k => absurd k (hno _), fun t _ => hA.2 t, rfl⟩, ⟨fun n hn => ?_, fun o k Lc e => .inl (hI.dom e), fun o y e => hI.has e, Ext.refl _, Nat.le_refl _, fun _ _ e => e, fun _ _ _ => rfl, fun _ _ _ e => .inl e⟩⟩
  have hn : σ0.next ≤ n := hn
  have hcut : cut ρ0 n = ρ0 := by
    funext o k
    unfold cut
    split
    · rfl
    · exact ((hI.fresh o (by omega)).2 k).symm
  rw [hcut]
  have hG : ∀ o y, GS σ0 (Array.replicate ops.size false) L [] o y → σ0.get o = some y := fun o y h => by
    rcases h with h | ⟨s, _, k, _⟩
    · exact h
    · exact absurd k (hno _)
  exact ⟨hI.below, fun o x e => hI.objs o x (hG o x e.2), fun o cs g m e => hI.gen o cs g m (hG _ _ e.2), fun o o' x x' k k' L L' e e' => hI.disj o o' x x' k k' L L' (hG _ _ e.2) (hG _ _ e'.2),
    fun o ho => ⟨fun x e => by omega, (hI.fresh o (by omega)).2⟩, hI.bnd, hI.own⟩

/-- Regions of open order are sound. -/
theorem region_ok (hE : EnvOk E w0) (hex : ∀ f S, E.sum f = some S → ∃ fn, E.fn f = some fn) (hK : KontOk E w0 K) : RegionOk E w0 K := by
  intro id ops a σ r rl h ρ c w hI hA
  unfold regionA at h
  simp only at h
  split at h
  · rename_i hdo
    simp only [drawOk, Bool.and_eq_true, Bool.not_eq_true'] at hdo
    obtain ⟨hdef, hnd⟩ := hdo
    have hdst := nodupB_spec hnd
    have hok := dops_ok ops
    have hI' := hI.drew
    have hs0 := Step.drew hI
    have hcnt : (Array.replicate ops.size false).toList.count false = ops.size := by simp
    refine wpIn_region_any hE.order ?_
    show wpAnyIn (FF rl) 0 E.P .any ops _ ops.size (Array.replicate ops.size false) c w.drew
    rcases draw_run (K := K) (E := E) (ops := ops) (a0 := a) _ 0 [] a σ r h .nil (eager_mem E (dops ops) _ _ fun d hd => hd) (fun x => by simp [Nat.zero_testBit]) with
      ⟨L, a', σ', hrun, rfl, hcov⟩ | ⟨L, d, a₁, σ₁, x, b, σ', hrun, hd, hbef, hnL, hone, hun, rfl⟩
    · refine any_sim hE hex hK hok hdst hdef hI' hA.df hrun _ (fun listed ρ' R B c' w' H hin _ => ?_) (fun listed ρ' R B c' w' d next H hd hnL _ => ?_) ops.size _ ρ L [] c w.drew (start_any hI' hA.tm L) hcnt
      · have hst := H.h.step (R2 := []) (R1 := R) hI' H.l rfl (H.l.split ▸ hrun) (fun q hq => hin q (by rw [H.l.split]; simp [hq]))
        refine ⟨cut ρ' σ'.next, hs0.trans hI hst, ⟨H.t.full hdst hrun hin hst.ext, ?_⟩, rfl⟩
        rw [show (a' : AFr).df = a.df from (Run.frame hrun).2, H.t.df]
        exact hA.df.mono hst.ext
      · obtain ⟨q, hq, e⟩ := hcov d hd
        exact absurd e (hnL q hq)
    · refine any_sim hE hex hK hok hdst hdef hI' hA.df hrun _ (fun listed ρ' R B c' w' H hin hr => ?_) (fun listed ρ' R B c' w' d' next H hd' hnL' hb' => ?_) ops.size _ ρ L [] c w.drew (start_any hI' hA.tm L) hcnt
      · have := ready_of hok H.l hd (fun k => by obtain ⟨s, hs, e⟩ := H.l.only d hd k; exact hnL s hs (by rw [e])) fun x hx => by
          obtain ⟨q, hq, rfl⟩ := (hbef x).1 hx
          exact hin q hq
        rw [hr] at this; cases this
      · have hdd : d' = d := by
          have hu := hun d' hd'
          refine hok.uniq d' hd' d hd (Classical.byContradiction fun hne => ?_)
          have h1 : d.bef.testBit d'.i = false := by
            cases hh : d.bef.testBit d'.i with
            | false => rfl
            | true => obtain ⟨q, hq, e⟩ := (hbef _).1 hh; exact absurd e (hnL' q hq)
          have h2 : d'.bef.testBit d.i = false := by
            cases hh : d'.bef.testBit d.i with
            | false => rfl
            | true => obtain ⟨s, hs, e⟩ := H.l.only d hd (hb' _ hh); exact absurd (by rw [e]) (hnL s hs)
          simp [unord, h1, h2, hne] at hu
        subst hdd
        have hin : ∀ s ∈ L, InS listed s.d.i := fun s hs => hb' _ ((hbef _).2 ⟨s, hs, rfl⟩)
        have hst := H.h.step (R2 := []) (R1 := R) hI' H.l rfl (H.l.split ▸ hrun) (fun q hq => hin q (by rw [H.l.split]; simp [hq]))
        have hF := H.t.full hdst hrun hin hst.ext
        have hF' : FRel w0 (cut ρ' σ₁.next) (dim d' (dops ops) a₁) c'.tmps := ⟨by rw [(dim_n _ _ _).1]; exact hF.1, fun t => by
          rcases dim_get d' (dops ops) a₁ t with k | ⟨k, _⟩
          · rw [k]; exact .top _
          · rw [k]; exact hF.2 t⟩
        have hdf : DRel w0 (cut ρ' σ₁.next) a₁.df c'.defers := by rw [(Run.frame hrun).2, H.t.df]; exact hA.df.mono hst.ext
        have hi : ops[d'.i]? = some d'.o := hok.op _ hd'
        have hnd : ∀ q, d'.o.op ≠ .defer q := hasDefer_not hdef d'.o (by
          rw [← Array.getElem?_toList] at hi
          exact List.mem_of_getElem? hi)
        refine one_sim hE hex hK hst.inv ⟨hF', by rw [(dim_n _ _ _).2]; exact hdf⟩ hi (.inr hnd) hone next _ (fun e => by cases e) (fun x' y ρ₂ w₂ e hst₂ hv hA₂ => ?_)
        cases e
        obtain ⟨t1, t2, t3⟩ := topped_get (dops ops) a₁
        refine ⟨ρ₂, (hs0.trans hI hst).trans hI hst₂, ⟨⟨by rw [t1]; exact hF.1, fun t => ?_⟩, by rw [t2]; exact hdf.mono hst₂.ext⟩, y, rfl, hv⟩
        rcases t3 t with k | ⟨k, _⟩
        · rw [k]; exact .top _
        · rw [k]; exact (hF.2 t).mono hst₂.ext
  · cases h

/-- **The evaluation is sound.** -/
theorem eval_ok (hE : EnvOk E w0) (hex : ∀ f S, E.sum f = some S → ∃ fn, E.fn f = some fn) (N n : Nat) : KontOk E w0 (evalK E N n) :=
  evalK_ok hE hex (fun _ hK => region_ok hE hex hK) N n

end
end Go.Ai
