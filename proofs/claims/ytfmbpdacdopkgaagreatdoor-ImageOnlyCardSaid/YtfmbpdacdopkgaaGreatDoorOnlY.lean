/- The card of ImageOnly: for every input the call returns true, and each argument reads behind it as it read before. Conditions: none beyond the card's own. -/
import Derived.Test.YtfmbpdacdopkgaaGreatDoorImgE0
import Derived.Test.YtfmbpdacdopkgaaGreatDoorImgN4
import Derived.Test.YtfmbpdacdopkgaaGreatDoorCards
import Derived.Test.YtfmbpdacdopkgaaGreatDoorTie
namespace Go.Proofs.YtfmbpdacdopkgaaGreatDoor
set_option maxRecDepth 100000
open Go Go.Ai
open Go.ChangeShapes Go.WideShapes Go.ChangeAt Go.RowKit

noncomputable def cellsD : DataW Unit → List Value
  | .agg ps => ps.map fun
    | .lit l => l.value
    | _ => undef
  | _ => []
noncomputable def entD : DataW Unit → Obj
  | .map es => .map (es.zipIdx.map fun p => { key := p.1.1.value, val := .agg (cellsD p.1.2).toArray, born := p.2 }).toArray es.length
  | _ => .map #[] 0
def putC (c : Array Value) : Obj → Obj
  | .cells _ t fz => .cells c t fz
  | o => o

/-- A world for the witness: the listed variables hold what they are listed with. -/
noncomputable def laidWorld (os : Os) : World :=
  { World.holding Tryz.prog os ⟨#[], #[], []⟩ with heap :=
      (((((((World.holding Tryz.prog os ⟨#[], #[], []⟩).heap.modify 0 (putC #[.iface 184 (.pointer (some ⟨(World.holding Tryz.prog os ⟨#[], #[], []⟩).heap.size, 0, none⟩))])).modify 1
        (putC #[.iface 184 (.pointer (some ⟨(World.holding Tryz.prog os ⟨#[], #[], []⟩).heap.size + 1, 0, none⟩))])).modify 2 (putC (cellsD Rows.laid_internal_strconv_uint64pow10).toArray)).modify 3 (putC (cellsD Rows.laid_math_bits_deBruijn32tab).toArray)).modify 4
        (putC (cellsD Rows.laid_math_bits_deBruijn64tab).toArray)).modify 5 (putC #[.map (some ((World.holding Tryz.prog os ⟨#[], #[], []⟩).heap.size + 2))])).modify 6 (putC #[.map (some ((World.holding Tryz.prog os ⟨#[], #[], []⟩).heap.size + 3))]) ++
      #[.cells #[.string ⟨#[105, 110, 118, 97, 108, 105, 100, 32, 115, 121, 110, 116, 97, 120]⟩] 186 (0, 0), .cells #[.string ⟨#[118, 97, 108, 117, 101, 32, 111, 117, 116, 32, 111, 102, 32, 114, 97, 110, 103, 101]⟩] 186 (0, 0), entD Rows.laid_winch_ast_shapes, entD Rows.laid_winch_list_shapes] }

def img0 : Value := .agg ⟨List.replicate 192 (.int .i64 0)⟩
noncomputable def wArgs : Array Value := #[.slice none 0 0, img0, .agg #[.int .i64 0, .slice none 0 0]]

theorem laid_met (os : Os) : laidMet Tryz.prog Rows.imageOnlyRow.laid ((laidWorld os).forCall (fun _ _ => 0) ⟨#[], wArgs, []⟩).memory :=
  laidMet_of_run' 8 (by kernel_rfl) (by kernel_rfl)
theorem reads (os : Os) {H : Type} (enc : TypeId × Value → H) : (DataW.whole enc Tryz.prog ((laidWorld os).forCall (fun _ _ => 0) ⟨#[], wArgs, []⟩).memory Tryz.f7.params.toList Rows.imageOnlySpec.vars false wArgs.toList 8).isSome = true := by kernel_rfl

theorem gives7 (w : World) {cs : List Int} (hc : cs.length = 192) {l : List Lk} {c : List Int} {x1 x2 : AV} {v1 v2 : Value} (h1 : Arg 6 x1 (lcs l)) (h2 : Arg 1 x2 (ones c)) (u : Int)
    (r1 : VRel w (fun _ _ => none) x1 v1) (r2 : VRel w (fun _ _ => none) (.agg [.i u, x2]) v2) :
    Calls Tryz.prog 7 #[v1, .agg (cs.map (Value.int .i64)).toArray, v2] w fun e w' => e = .returned (.bool true) ∧ Go.RowKit.Below w.heap.size w w' := by
  obtain ⟨σ', h⟩ := law7 (n := 0) (N := 401) hc h1 h2 (by omega) u
  have h0 : VRel w (fun _ _ => none) (.agg (ints cs)) (.agg (cs.map (Value.int .i64)).toArray) := rel_exact (by simp [AV.exact?, ints_exact])
  have := calls_of_eval (EL_ok (L5_ok w)) (EL_ex (L5_ok w)) h (cargs := #[v1, .agg (cs.map (Value.int .i64)).toArray, v2]) (.cons r1 (.cons h0 (.cons r2 .nil)))
  exact this.mono fun e w' ⟨y, ρ', he, hr, _, hb⟩ => ⟨by rw [he]; cases hr; rfl, hb⟩

theorem contract (H : Type) (enc : TypeId × Value → H) (W : World) (args : Array Value) (ds gs : List (DataW H)) (before : List MemPlace) (base : Nat)
    (hval : ∀ (j : Nat) t v, Tryz.f7.params[j]? = some t → args[j]? = some v → Value.okWide Tryz.prog W .any base t v)
    (hW : DataW.Whole enc Tryz.prog Tryz.f7.params.toList Rows.imageOnlySpec.vars false W args.toList ds gs before)
    (hsz : (DataW.weightsEach Tryz.prog (Tryz.f7.params.toList ++ (OpenSpec.ofChange Rows.imageOnlySpec).bare.plain.varTypes Tryz.prog) (ds ++ gs)).all (· ≤ reachBytes) = true) :
    Calls Tryz.prog 7 args W fun e W' => ∃ v, e = .returned v ∧ Rows.imageOnlySpec.post enc Tryz.prog Tryz.f7 false true false false W args v W' := by
  have hW0 := hW
  obtain ⟨p, q, hA, hV, rfl, hfz, hnd⟩ := hW0
  rw [Tryz.params7] at hA hval hsz
  obtain ⟨v0, vs0, d0, ds0, p0, q0, hargs, rfl, rfl, h0, r0⟩ := trodAll_cons hA
  obtain ⟨v1, vs1, d1, ds1, p1, q1, hargs1, rfl, rfl, h1, r1⟩ := trodAll_cons r0
  obtain ⟨v2, vs2, d2, ds2, p2, q2, hargs2, rfl, rfl, h2, r2⟩ := trodAll_cons r1
  obtain ⟨rfl, rfl, rfl⟩ := trodAll_nil r2
  obtain ⟨rfl, rfl⟩ := trodVars_none hV
  obtain rfl : args = #[v0, v1, v2] := by cases args; simp_all
  obtain ⟨l, x1, rr1, ha1, -, hd1⟩ := open_linksT (ρ := fun _ _ => none) (hval 0 34 v0 rfl rfl) h0
  obtain ⟨cs, hc, rfl⟩ := open_img h1
  obtain ⟨u, c, x2, rr2, ha2, hx2, e0, e1, rfl, hd2⟩ := open_cellsT (ρ := fun _ _ => none) (hval 2 40 v2 rfl rfl) h2
  refine (gives7 W hc ha1 ha2 u rr1 rr2).mono fun e W' ⟨he, hb⟩ => ⟨_, he, ?_⟩
  exact post_below (tb := 4) laidOut rfl (by rw [Tryz.params7]; intro t ht; have : t = 34 ∨ t = 37 ∨ t = 40 := by simpa using ht
                                             rcases this with rfl | rfl | rfl <;> exact ⟨by kernel_rfl, by decide +kernel⟩) (by kernel_rfl) Tryz.underlying4 ⟨rfl, rfl, rfl⟩ hW hb
theorem fact_stand : Tryz.prog.wantsStandIn 34 = false ∧ Tryz.prog.wantsStandIn 37 = false ∧ Tryz.prog.wantsStandIn 40 = false := ⟨by kernel_rfl, by kernel_rfl, by kernel_rfl⟩
end Go.Proofs.YtfmbpdacdopkgaaGreatDoor
