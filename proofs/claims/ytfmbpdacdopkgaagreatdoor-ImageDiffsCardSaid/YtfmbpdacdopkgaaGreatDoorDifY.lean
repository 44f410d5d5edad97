/- The card of ImageDiffs: for every input the call returns true, and each argument reads behind it as it read before. Conditions: none beyond the card's own. -/
import Derived.Test.YtfmbpdacdopkgaaGreatDoorImgN5
import Derived.Test.YtfmbpdacdopkgaaGreatDoorImgO
import Derived.Test.YtfmbpdacdopkgaaGreatDoorCards
import Derived.Test.YtfmbpdacdopkgaaGreatDoorTie
namespace Go.Proofs.YtfmbpdacdopkgaaGreatDoor
set_option maxRecDepth 100000
open Go Go.Ai
open Go.ChangeShapes Go.WideShapes Go.ChangeAt Go.RowKit

noncomputable def cellsD : DataW Unit → List Value
  | .agg ps => ps.map fun
    | .lit l => l.value
    | _ => undef
  | _ => []
noncomputable def entD : DataW Unit → Obj
  | .map es => .map (es.zipIdx.map fun p => { key := p.1.1.value, val := .agg (cellsD p.1.2).toArray, born := p.2 }).toArray es.length
  | _ => .map #[] 0
def putC (c : Array Value) : Obj → Obj
  | .cells _ t fz => .cells c t fz
  | o => o

/-- A world for the witness: the listed variables hold what they are listed with. -/
noncomputable def laidWorld (os : Os) : World :=
  { World.holding Tryz.prog os ⟨#[], #[], []⟩ with heap :=
      (((((((World.holding Tryz.prog os ⟨#[], #[], []⟩).heap.modify 0 (putC #[.iface 184 (.pointer (some ⟨(World.holding Tryz.prog os ⟨#[], #[], []⟩).heap.size, 0, none⟩))])).modify 1
        (putC #[.iface 184 (.pointer (some ⟨(World.holding Tryz.prog os ⟨#[], #[], []⟩).heap.size + 1, 0, none⟩))])).modify 2 (putC (cellsD Rows.laid_internal_strconv_uint64pow10).toArray)).modify 3 (putC (cellsD Rows.laid_math_bits_deBruijn32tab).toArray)).modify 4
        (putC (cellsD Rows.laid_math_bits_deBruijn64tab).toArray)).modify 5 (putC #[.map (some ((World.holding Tryz.prog os ⟨#[], #[], []⟩).heap.size + 2))])).modify 6 (putC #[.map (some ((World.holding Tryz.prog os ⟨#[], #[], []⟩).heap.size + 3))]) ++
      #[.cells #[.string ⟨#[105, 110, 118, 97, 108, 105, 100, 32, 115, 121, 110, 116, 97, 120]⟩] 186 (0, 0), .cells #[.string ⟨#[118, 97, 108, 117, 101, 32, 111, 117, 116, 32, 111, 102, 32, 114, 97, 110, 103, 101]⟩] 186 (0, 0), entD Rows.laid_winch_ast_shapes, entD Rows.laid_winch_list_shapes] }

def img0 : Value := .agg ⟨List.replicate 192 (.int .i64 0)⟩
noncomputable def wArgs : Array Value := #[img0, img0]

theorem laid_met (os : Os) : laidMet Tryz.prog Rows.imageDiffsRow.laid ((laidWorld os).forCall (fun _ _ => 0) ⟨#[], wArgs, []⟩).memory :=
  laidMet_of_run' 8 (by kernel_rfl) (by kernel_rfl)
theorem reads (os : Os) {H : Type} (enc : TypeId × Value → H) : (DataW.whole enc Tryz.prog ((laidWorld os).forCall (fun _ _ => 0) ⟨#[], wArgs, []⟩).memory Tryz.f5.params.toList Rows.imageDiffsSpec.vars false wArgs.toList 8).isSome = true := by kernel_rfl

theorem gives5 (w : World) {ca cb : List Int} (hca : ca.length = 192) (hcb : cb.length = 192) :
    Calls Tryz.prog 5 #[.agg (ca.map (Value.int .i64)).toArray, .agg (cb.map (Value.int .i64)).toArray] w fun e w' => e = .returned (.bool true) ∧ Go.RowKit.Below w.heap.size w w' := by
  obtain ⟨σ', h⟩ := law5 (n := 0) (N := 300) (by decide) hca hcb
  have he : AV.exacts? [.agg (ints ca), .agg (ints cb)] = some [.agg (ca.map (Value.int .i64)).toArray, .agg (cb.map (Value.int .i64)).toArray] := by simp [AV.exacts?, AV.exact?, ints_exact]
  have := calls_of_eval (EL_ok (L3_ok w)) (EL_ex (L3_ok w)) h (cargs := #[.agg (ca.map (Value.int .i64)).toArray, .agg (cb.map (Value.int .i64)).toArray]) (rels_exact he)
  exact this.mono fun e w' ⟨y, ρ', he, hr, _, hb⟩ => ⟨by rw [he]; cases hr; rfl, hb⟩

theorem contract (H : Type) (enc : TypeId × Value → H) (W : World) (args : Array Value) (ds gs : List (DataW H)) (before : List MemPlace)
    (hW : DataW.Whole enc Tryz.prog Tryz.f5.params.toList Rows.imageDiffsSpec.vars false W args.toList ds gs before) :
    Calls Tryz.prog 5 args W fun e W' => ∃ v, e = .returned v ∧ Rows.imageDiffsSpec.post enc Tryz.prog Tryz.f5 false true false false W args v W' := by
  have hW0 := hW
  obtain ⟨p, q, hA, hV, rfl, hfz, hnd⟩ := hW0
  rw [Tryz.params5] at hA
  obtain ⟨v0, vs0, d0, ds0, p0, q0, hargs, rfl, rfl, h0, r0⟩ := trodAll_cons hA
  obtain ⟨v1, vs1, d1, ds1, p1, q1, hargs1, rfl, rfl, h1, r1⟩ := trodAll_cons r0
  obtain ⟨rfl, rfl, rfl⟩ := trodAll_nil r1
  obtain ⟨rfl, rfl⟩ := trodVars_none hV
  obtain rfl : args = #[v0, v1] := by cases args; simp_all
  obtain ⟨ca, hca, rfl⟩ := open_img h0
  obtain ⟨cb, hcb, rfl⟩ := open_img h1
  refine (gives5 W hca hcb).mono fun e W' ⟨he, hb⟩ => ⟨_, he, ?_⟩
  exact post_below (tb := 4) laidOut rfl (by rw [Tryz.params5]; intro t ht; have : t = 37 := by simpa using ht
                                             subst this; exact ⟨by kernel_rfl, by decide +kernel⟩) (by kernel_rfl) Tryz.underlying4 ⟨rfl, rfl, rfl⟩ hW hb
theorem fact_stand : Tryz.prog.wantsStandIn 37 = false := by kernel_rfl
end Go.Proofs.YtfmbpdacdopkgaaGreatDoor
