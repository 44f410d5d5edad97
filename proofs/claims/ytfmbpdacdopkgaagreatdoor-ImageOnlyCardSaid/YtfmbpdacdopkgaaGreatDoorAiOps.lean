/- The abstract interpreter: operations against the model's. Conditions: the environment tells the truth of the program. -/
import Derived.Test.YtfmbpdacdopkgaaGreatDoorAiRead2
namespace Go.Ai
open Go.RowKit (Below)

section
variable {E : Env} {w0 : World} {ρ : Asg} {σ : St} {w : World}

theorem toList_one {α : Type} {a : Array α} {x : α} (h : a.toList = [x]) : a = #[x] := by
  apply Array.ext'; simpa using h
theorem toList_two {α : Type} {a : Array α} {x y : α} (h : a.toList = [x, y]) : a = #[x, y] := by
  apply Array.ext'; simpa using h

theorem exec_value {s : Sem Value} {y : Value} {w w' : World} {P : Program} (h : s.run P w = .ok y w') : (do pure (Next.value (← s)) : Sem Next).run P w = .ok (.value y) w' := by
  simp [h]

/-- A call of a builtin. -/
theorem exec_builtin (ρ' : Operand → Value) (o : Oper) (b : Builtin) (args : Array Operand) (ts : Array TypeId) (ho : o.op = .call ⟨.builtin b, args, ts⟩) (P : Program) (w : World) :
    ∃ cs : Array Bool, (execOp ρ' o).run P w = (builtin b ts o.type cs (args.map ρ')).run P w :=
  ⟨_, by simp only [execOp, ho, resolve, invoke, Sem.run_bind, Sem.run_pure, Result.andThen_ok]; rfl⟩

theorem readA_sim (hE : EnvOk E w0) (hI : Inv w0 ρ σ w) {a : AFr} {c : Act} (hF : FRel w0 ρ a c.tmps) {o : Oper} {x : AV} (h : readA E a σ o = some x) :
    ∃ y, (execOp c.eval o).run E.P w = .ok (.value y) w ∧ VRel w0 ρ x y := by
  have R := opd_rel hE hF
  unfold readA at h
  split at h
  · rename_i p ho
    cases h; exact ⟨_, by simp [execOp, ho], R p⟩
  · rename_i p ho
    cases h; exact ⟨_, by simp [execOp, ho], R p⟩
  · rename_i q p r ho
    split at h
    · rename_i b hb
      have hc := R q
      rw [hb] at hc
      generalize hq : c.eval q = cq at hc
      cases hc
      cases h
      refine ⟨if b then c.eval p else c.eval r, by simp [execOp, ho, hq, asBool], ?_⟩
      cases b
      · exact R r
      · exact R p
    · cases h
  · rename_i t parts ho
    obtain ⟨_, e2⟩ := parts_rel hE hF parts.toList
    obtain ⟨z, hz, hr⟩ := build_sim hE (parts' := parts.map fun p => (p.1, c.eval p.2)) h (by simp) (by simpa using e2) w
    exact ⟨z, by simp only [execOp, ho]; exact exec_value hz, hr⟩
  · rename_i t p ho
    obtain ⟨b, off, z, hp, hz, hr⟩ := load_sim hE hI h (R p)
    exact ⟨z, by simp only [execOp, ho]; exact exec_value (by simp [Instr.loadAt, hp, Instr.sureAddr, hz]), hr⟩
  · rename_i p ho
    have hc := R p
    split at h <;> first | (cases h; done) | skip
    all_goals rename_i hp; rw [hp] at hc; generalize hq : c.eval p = cq at hc
    all_goals cases hc <;> cases h <;> refine ⟨_, by simp [execOp, ho, hq]; rfl, ?_⟩
    · exact .ptr ‹_› ‹_›
    · exact .cptr ‹_›
    · exact .fn ‹_› ‹_›
    · exact .ifc ‹_›
    · exact .yld ‹_›
  · rename_i op t p q u ho
    split at h
    · obtain ⟨z, hz, hr⟩ := eq_sim hE h (R p) (R q) w
      exact ⟨z, by simp only [execOp, ho]; exact exec_value hz, hr⟩
    · obtain ⟨z, hz, hr⟩ := eq_sim hE h (R p) (R q) w
      exact ⟨z, by simp only [execOp, ho]; exact exec_value hz, hr⟩
    · rename_i hne1 hne2
      split at h
      · rename_i v1 v2 h1 h2
        have r1 := R p
        have r2 := R q
        rw [h1] at r1; rw [h2] at r2
        generalize hq1 : c.eval p = c1 at r1
        generalize hq2 : c.eval q = c2 at r2
        cases r1; cases r2
        simp only [Option.map_eq_some_iff] at h
        obtain ⟨z, hz, rfl⟩ := h
        have hg : (eqGuard op t p q v1 v2).run E.P w = .ok () w := by
          unfold eqGuard
          cases op <;> first | (exact (hne1 rfl).elim) | (exact (hne2 rfl).elim) | simp
        exact ⟨z, by simp only [execOp, ho, hq1, hq2]; exact exec_value (by simp [hg, run_runA w hz]), .v z⟩
      · cases h
  · rename_i op t p ho
    split at h
    · rename_i v1 h1
      have r1 := R p
      rw [h1] at r1
      generalize hq1 : c.eval p = c1 at r1
      cases r1
      simp only [Option.map_eq_some_iff] at h
      obtain ⟨z, hz, rfl⟩ := h
      exact ⟨z, by simp only [execOp, ho, hq1]; exact exec_value (run_runA w hz), .v z⟩
    · cases h
  · rename_i src dst p ho
    obtain ⟨z, hz, hr⟩ := convert_sim hE hI h (R p)
    exact ⟨z, by simp only [execOp, ho]; exact exec_value hz, hr⟩
  · rename_i t p ho
    split at h
    · cases h
    · rename_i d hd hu
      cases h
      refine ⟨.iface t (c.eval p), ?_, .ifc (R p)⟩
      simp only [execOp, ho]
      refine exec_value ?_
      simp only [Instr.makeInterface, Sem.run_bind, run_und hE hu, Result.andThen_ok]
      cases d <;> first | (exact (hd _ hu).elim) | rfl
    · cases h
  · rename_i f first cap ho
    cases h
    refine ⟨.func (.func f) (first.map c.eval) (cap.map c.eval), by simp [execOp, ho, Instr.makeFunc], .fn ?_ ?_⟩
    · simpa using opds_rel hE hF first.toList
    · simpa using opds_rel hE hF cap.toList
  · rename_i t p lo hi mx ho
    obtain ⟨z, hz, hr⟩ := slice_sim hE h (R p) (opt_rel hE hF lo) (opt_rel hE hF hi) (opt_rel hE hF mx) w
    exact ⟨z, by simp only [execOp, ho]; exact exec_value hz, hr⟩
  · rename_i s p f ho
    obtain ⟨z, hz, hr⟩ := fieldAddr_sim hE h (R p) w
    exact ⟨z, by simp only [execOp, ho]; exact exec_value hz, hr⟩
  · rename_i t p f ho
    obtain ⟨z, hz, hr⟩ := field_sim hE h (R p) w
    exact ⟨z, by simp only [execOp, ho]; exact exec_value hz, hr⟩
  · rename_i t p i ho
    obtain ⟨z, hz, hr⟩ := indexAddr_sim hE h (R p) (R i) w
    exact ⟨z, by simp only [execOp, ho]; exact exec_value hz, hr⟩
  · rename_i t p i ho
    obtain ⟨z, hz, hr⟩ := index_sim hE h (R p) (R i) w
    exact ⟨z, by simp only [execOp, ho]; exact exec_value hz, hr⟩
  · rename_i t p i ok ho
    obtain ⟨z, hz, hr⟩ := lookup_sim hE hI h (R p) (R i)
    exact ⟨z, by simp only [execOp, ho]; exact exec_value hz, hr⟩
  · rename_i p t u ok ho
    obtain ⟨z, hz, hr⟩ := typeAssert_sim hE h (R p) w
    exact ⟨z, by simp only [execOp, ho]; exact exec_value hz, hr⟩
  · rename_i p i ho
    split at h
    · rename_i l hl
      have hc := R p
      rw [hl] at hc
      generalize hq : c.eval p = cq at hc
      cases hc with
      | tup hr =>
        rename_i cs
        obtain ⟨z, hz, hr'⟩ := hr.get i x h
        have hz' : cs[i]? = some z := by simpa using hz
        exact ⟨z, by simp only [execOp, ho, hq]; exact exec_value (by simp [Instr.extract, hz']), hr'⟩
    · cases h
  · rename_i b args ts ho
    obtain ⟨bs, hb⟩ := exec_builtin c.eval o b args ts ho E.P w
    split at h
    · rename_i p hargs
      rw [toList_one hargs] at hb
      split at h
      · rename_i t rest hts
        obtain ⟨z, hz, hr⟩ := len_sim (ty := o.type) (ts := ts) hE hI h (by rw [← Array.getElem?_toList, hts]; rfl) (R p)
        exact ⟨z, by rw [hb]; exact exec_value (by simpa using hz), hr⟩
      · cases h
    · rename_i p hargs
      rw [toList_one hargs] at hb
      have r1 := R p
      split at h
      · rename_i v1 h1
        rw [h1] at r1
        generalize hq1 : c.eval p = c1 at r1
        cases r1
        simp only [Option.map_eq_some_iff] at h
        obtain ⟨z, hz, rfl⟩ := h
        exact ⟨z, by rw [hb]; exact exec_value (by simpa [hq1] using run_runA w hz), .v z⟩
      · rename_i h1
        rw [h1] at r1
        generalize hq1 : c.eval p = c1 at r1
        cases r1 with
        | e0 =>
          split at h
          · rename_i t rest hts
            split at h
            · rename_i e ht
              cases h
              have ht0 : ts[0]? = some t := by rw [← Array.getElem?_toList, hts]; rfl
              exact ⟨goInt 0, by rw [hb]; exact exec_value (by simp [hq1, Builtin.cap_, ht0, run_und hE ht]), .v _⟩
            · cases h
          · cases h
      · cases h
    · rename_i p q hargs
      rw [toList_two hargs] at hb
      split at h
      · rename_i v1 v2 h1 h2
        have r1 := R p
        have r2 := R q
        rw [h1] at r1; rw [h2] at r2
        generalize hq1 : c.eval p = c1 at r1
        generalize hq2 : c.eval q = c2 at r2
        cases r1; cases r2
        simp only [Option.map_eq_some_iff] at h
        obtain ⟨z, hz, rfl⟩ := h
        exact ⟨z, by rw [hb]; exact exec_value (by simpa [hq1, hq2] using run_runA w hz), .v z⟩
      · cases h
    · rename_i p q hargs
      rw [toList_two hargs] at hb
      split at h
      · rename_i v1 v2 h1 h2
        have r1 := R p
        have r2 := R q
        rw [h1] at r1; rw [h2] at r2
        generalize hq1 : c.eval p = c1 at r1
        generalize hq2 : c.eval q = c2 at r2
        cases r1; cases r2
        simp only [Option.map_eq_some_iff] at h
        obtain ⟨z, hz, rfl⟩ := h
        exact ⟨z, by rw [hb]; exact exec_value (by simpa [hq1, hq2] using run_runA w hz), .v z⟩
      · cases h
    · cases h
  · cases h

end
end Go.Ai
