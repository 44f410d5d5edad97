/- The card of ImagePlaces: for every input the call returns true, and each argument reads behind it as it read before. Conditions: none beyond the card's own. -/
import Derived.Test.YtfmbpdacdopkgaaGreatDoorImgX
import Derived.Test.YtfmbpdacdopkgaaGreatDoorAiRow
import Derived.Test.YtfmbpdacdopkgaaGreatDoorCards
import Derived.Test.YtfmbpdacdopkgaaGreatDoorTie
import Derived.Stop.LaidErr
import Derived.Lib.LaidTab
namespace Go.Proofs.YtfmbpdacdopkgaaGreatDoor
set_option maxRecDepth 100000
open Go Go.Ai
open Go.ChangeShapes Go.WideShapes Go.ChangeAt Go.RowKit

theorem own : ownKnob Tryz.prog.godebug = none := by kernel_rfl
theorem laidOut : laidOutB Tryz.prog = true := by kernel_rfl
theorem gES : Tryz.prog.globalNamed "strconv.ErrSyntax" = some 0 := by kernel_rfl
theorem gER : Tryz.prog.globalNamed "strconv.ErrRange" = some 1 := by kernel_rfl
theorem gESType : (Tryz.prog.globals[0]?).map (·.type) = some 81 := by kernel_rfl
theorem gERType : (Tryz.prog.globals[1]?).map (·.type) = some 81 := by kernel_rfl
theorem star : "*" ++ "errors.errorString" = "*errors.errorString" := by decide
theorem row184 (u : TypeId) (h : Tryz.prog.typeName? 3 u = some "*errors.errorString") : u = 184 := by
  exact typeName_ptr_named (nm := "errors.errorString") (by rw [star]; kernel_rfl) (by kernel_rfl) (by decide) u (by rw [star]; exact h)
theorem cells186 : Tryz.prog.cellsOf 186 = 1 := by kernel_rfl
theorem cells9 : Tryz.prog.cellsOf 9 = 1 := by kernel_rfl
theorem cells3 : Tryz.prog.cellsOf 3 = 1 := by kernel_rfl
theorem cells22 : Tryz.prog.cellsOf 22 = 2 := by kernel_rfl

theorem vars_of {W : World} (h : laidMetH Tryz.prog Rows.imagePlacesRow.laid W) : Vars W := by
  have h' : laidMet Tryz.prog Rows.imagePlacesRow.laid W := h
  have h4 := (h'.tail.tail.tail : laidMet Tryz.prog [("strconv.ErrRange", Rows.laid_strconv_ErrRange), ("strconv.ErrSyntax", Rows.laid_strconv_ErrSyntax), ("winch/ast.shapes", Rows.laid_winch_ast_shapes), ("winch/list.shapes", Rows.laid_winch_list_shapes)] W)
  obtain ⟨a1, s1, hv1, -, -, -⟩ := laid_sentinel h4 gER gERType Tryz.underlying81 row184 Tryz.underlying184 Tryz.underlying186 rfl rfl Tryz.underlying9 cells186 cells9
  obtain ⟨a0, s0, hv0, -, -, -⟩ := laid_sentinel h4.tail gES gESType Tryz.underlying81 row184 Tryz.underlying184 Tryz.underlying186 rfl rfl Tryz.underlying9 cells186 cells9
  exact ⟨⟨_, _, hv0⟩, _, _, hv1⟩

theorem open_pair {H : Type} {enc : TypeId × Value → H} {W : World} {base : Nat} {sp : Nat → Bool} {hd : Bool} {v : Value} {d : DataW H} {ps : List MemPlace} (h : DataW.Trod enc Tryz.prog W base sp hd 22 v d ps) : ∃ x n, v = .agg #[.int .i64 x, .int .i64 n] := by
  obtain ⟨fuel, h⟩ := h
  cases fuel with
  | zero => simp [DataW.trod] at h
  | succ fuel =>
    have hu : Tryz.prog.underlying 22 = some (.array 2 3) := by kernel_rfl
    simp only [DataW.trod, hu, cells22, cells3] at h
    split at h
    · rename_i hl
      have hone : ∀ c, (DataW.trod enc Tryz.prog W base sp hd fuel 3 c).isSome = true → ∃ x, c = [.int .i64 x] := fun c hc => by
        cases fuel with
        | zero => simp [DataW.trod] at hc
        | succ fuel =>
          have hu3 : Tryz.prog.underlying 3 = some (.int .i64) := by kernel_rfl
          unfold DataW.trod at hc
          simp only [hu3] at hc
          split at hc <;> simp_all
      obtain ⟨xs, hm, _⟩ := Option.map_eq_some_iff.1 h
      obtain ⟨b0, _, e0⟩ := Lib.mapM_at hm 0 0 (by simp)
      obtain ⟨b1, _, e1⟩ := Lib.mapM_at hm 1 1 (by simp)
      obtain ⟨x, hx⟩ := hone _ (by rw [e0]; rfl)
      obtain ⟨n, hn⟩ := hone _ (by rw [e1]; rfl)
      cases v with
      | agg cs =>
        obtain ⟨cs⟩ := cs
        match cs, hl with
        | [c0, c1], hl =>
          simp [Value.cells] at hx hn
          subst hx hn
          exact ⟨x, n, rfl⟩
      | _ => simp [Value.cells] at hl
    · cases h

noncomputable def cellsD : DataW Unit → List Value
  | .agg ps => ps.map fun
    | .lit l => l.value
    | _ => undef
  | _ => []
noncomputable def entD : DataW Unit → Obj
  | .map es => .map (es.zipIdx.map fun p => { key := p.1.1.value, val := .agg (cellsD p.1.2).toArray, born := p.2 }).toArray es.length
  | _ => .map #[] 0
def putC (c : Array Value) : Obj → Obj
  | .cells _ t fz => .cells c t fz
  | o => o

/-- A world for the witness: the listed variables hold what they are listed with. -/
noncomputable def laidWorld (os : Os) : World :=
  { World.holding Tryz.prog os ⟨#[], #[], []⟩ with heap :=
      (((((((World.holding Tryz.prog os ⟨#[], #[], []⟩).heap.modify 0 (putC #[.iface 184 (.pointer (some ⟨(World.holding Tryz.prog os ⟨#[], #[], []⟩).heap.size, 0, none⟩))])).modify 1
        (putC #[.iface 184 (.pointer (some ⟨(World.holding Tryz.prog os ⟨#[], #[], []⟩).heap.size + 1, 0, none⟩))])).modify 2 (putC (cellsD Rows.laid_internal_strconv_uint64pow10).toArray)).modify 3 (putC (cellsD Rows.laid_math_bits_deBruijn32tab).toArray)).modify 4
        (putC (cellsD Rows.laid_math_bits_deBruijn64tab).toArray)).modify 5 (putC #[.map (some ((World.holding Tryz.prog os ⟨#[], #[], []⟩).heap.size + 2))])).modify 6 (putC #[.map (some ((World.holding Tryz.prog os ⟨#[], #[], []⟩).heap.size + 3))]) ++
      #[.cells #[.string ⟨#[105, 110, 118, 97, 108, 105, 100, 32, 115, 121, 110, 116, 97, 120]⟩] 186 (0, 0), .cells #[.string ⟨#[118, 97, 108, 117, 101, 32, 111, 117, 116, 32, 111, 102, 32, 114, 97, 110, 103, 101]⟩] 186 (0, 0), entD Rows.laid_winch_ast_shapes, entD Rows.laid_winch_list_shapes] }

noncomputable def wArgs : Array Value := #[.string ⟨#[]⟩, .agg #[.int .i64 0, .int .i64 0]]

theorem laid_met (os : Os) : laidMet Tryz.prog Rows.imagePlacesRow.laid ((laidWorld os).forCall (fun _ _ => 0) ⟨#[], wArgs, []⟩).memory :=
  laidMet_of_run' 8 (by kernel_rfl) (by kernel_rfl)
theorem reads (os : Os) {H : Type} (enc : TypeId × Value → H) : ∃ places, DataW.whole enc Tryz.prog ((laidWorld os).forCall (fun _ _ => 0) ⟨#[], wArgs, []⟩).memory Tryz.f3.params.toList Rows.imagePlacesSpec.vars false wArgs.toList 8 =
    some ([.lit (.string []), .agg [.lit (.int .i64 0), .lit (.int .i64 0)]], [], places) := ⟨[], by kernel_rfl⟩

theorem contract (H : Type) (enc : TypeId × Value → H) (W : World) (args : Array Value) (ds gs : List (DataW H)) (before : List MemPlace) (base : Nat)
    (hval : ∀ (j : Nat) t v, Tryz.f3.params[j]? = some t → args[j]? = some v → Value.okWide Tryz.prog W .any base t v)
    (hW : DataW.Whole enc Tryz.prog Tryz.f3.params.toList Rows.imagePlacesSpec.vars false W args.toList ds gs before)
    (hsz : (DataW.weightsEach Tryz.prog (Tryz.f3.params.toList ++ (OpenSpec.ofChange Rows.imagePlacesSpec).bare.plain.varTypes Tryz.prog) (ds ++ gs)).all (· ≤ reachBytes) = true)
    (hL : laidMetH Tryz.prog Rows.imagePlacesRow.laid W) :
    Calls Tryz.prog 3 args W fun e W' => ∃ v, e = .returned v ∧ Rows.imagePlacesSpec.post enc Tryz.prog Tryz.f3 false true false false W args v W' := by
  have hW0 := hW
  obtain ⟨p, q, hA, hV, rfl, hfz, hnd⟩ := hW0
  rw [Tryz.params3] at hA hval hsz
  obtain ⟨v0, vs0, d0, ds0, p0, q0, hargs, rfl, rfl, h0, r0⟩ := trodAll_cons hA
  obtain ⟨v1, vs1, d1, ds1, p1, q1, hargs1, rfl, rfl, h1, r1⟩ := trodAll_cons r0
  obtain ⟨rfl, rfl, rfl⟩ := trodAll_nil r1
  obtain ⟨rfl, rfl⟩ := trodVars_none hV
  obtain rfl : args = #[v0, v1] := by cases args; simp_all
  obtain ⟨s, rfl, rfl, rfl, hs⟩ := Go.ChangeMaps.open_string Tryz.underlying9 (hval 0 9 v0 rfl rfl) h0
  obtain ⟨x, n, rfl⟩ := open_pair h1
  have hlim : s.size ≤ 281474976710656 := by
    have h1 := sized_string hsz (j := 0) (t := 9) rfl rfl
    have h2 := reachBytes_lt
    have e1 : s.size = s.data.size := rfl
    have e2 : s.data.toList.length = s.data.size := Array.length_toList
    have e3 : (2 : Nat) ^ 47 = 140737488355328 := by decide
    omega
  refine (gives3 (vars_of hL) hlim).mono fun e W' ⟨he, hb⟩ => ⟨_, he, ?_⟩
  exact post_below (tb := 4) laidOut rfl (by rw [Tryz.params3]; intro t ht; have : t = 9 ∨ t = 22 := by simpa using ht
                                             rcases this with rfl | rfl <;> exact ⟨by kernel_rfl, by decide +kernel⟩) (by kernel_rfl) Tryz.underlying4 ⟨rfl, rfl, rfl⟩ hW hb

end Go.Proofs.YtfmbpdacdopkgaaGreatDoor
