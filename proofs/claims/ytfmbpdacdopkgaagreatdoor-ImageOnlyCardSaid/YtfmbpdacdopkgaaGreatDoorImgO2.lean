/- Arguments opened: slices. Conditions: none. -/
import Derived.Test.YtfmbpdacdopkgaaGreatDoorImgN6
import Derived.Test.YtfmbpdacdopkgaaGreatDoorImgO
import Derived.ChangeSlices
import Derived.SizedLaws
namespace Go.Ai
open Go.ChangeShapes Go.WideShapes Go.ChangeAt

section
variable {W : World} {ρ : Asg} {b : Nat}
theorem crel_mk : ∀ {cs : List AV} {off : Nat}, (∀ (i : Nat) (x : AV), cs[i]? = some x → ∃ y, W.cell? ⟨b, off + i, none⟩ = some y ∧ VRel W ρ x y) → CRel W ρ b off cs
  | [], _, _ => .nil
  | x :: cs, off, h => by
    obtain ⟨y, h1, h2⟩ := h 0 x rfl
    refine .cons h1 h2 (crel_mk fun i z hz => ?_)
    obtain ⟨y', h1', h2'⟩ := h (i + 1) z (by simpa using hz)
    exact ⟨y', by rw [show off + 1 + i = off + (i + 1) by omega]; exact h1', h2'⟩
theorem lrel_mk {sz : Nat} : ∀ {xs : List AV} {off : Nat}, (∀ (i : Nat) (x : AV), xs[i]? = some x → ∃ cs, x.cells? = some cs ∧ cs.length = sz ∧ CRel W ρ b (off + i * sz) cs) → LRel W ρ sz b off xs
  | [], _, _ => .nil
  | x :: xs, off, h => by
    obtain ⟨cs, h1, h2, h3⟩ := h 0 x rfl
    refine .cons h1 h2 (by simpa using h3) (lrel_mk fun i z hz => ?_)
    obtain ⟨cs', h1', h2', h3'⟩ := h (i + 1) z (by simpa using hz)
    exact ⟨cs', h1', h2', by rw [show off + sz + i * sz = off + (i + 1) * sz by rw [Nat.add_mul]; omega]; exact h3'⟩
theorem choose_list {α : Type} {Q : Nat → α → Prop} : ∀ (n : Nat), (∀ i, i < n → ∃ a, Q i a) → ∃ l : List α, l.length = n ∧ ∀ (i : Nat) (a : α), l[i]? = some a → Q i a
  | 0, _ => ⟨[], rfl, fun i a h => by simp at h⟩
  | n + 1, h => by
    obtain ⟨l, hl, hq⟩ := choose_list n fun i hi => h i (by omega)
    obtain ⟨a, ha⟩ := h n (by omega)
    refine ⟨l ++ [a], by simp [hl], fun i z hz => ?_⟩
    rcases Nat.lt_or_ge i n with hi | hi
    · rw [List.getElem?_append_left (by omega)] at hz
      exact hq i z hz
    · rw [List.getElem?_append_right (by omega), hl] at hz
      have : i - n = 0 := by
        rcases Nat.eq_zero_or_pos (i - n) with h | h
        · exact h
        · rw [List.getElem?_eq_none (by simp; omega)] at hz; cases hz
      rw [this] at hz
      simp at hz
      subst hz
      rw [show i = n by omega]; exact ha
end

/-- A slice that was there before the call. -/
def ArgS (sz : Nat) (x : AV) (xs : List (List AV)) : Prop := ∀ σ, SlAt σ sz x xs

theorem open_sl {α H : Type} {P : Program} {enc : TypeId × Value → H} {W : World} {ρ : Asg} {base : Nat} {sp : Nat → Bool} {hd : Bool} {t e : TypeId} {sz : Nat} (co : α → List AV) (el : α → AV) (hel : ∀ a, (el a).cells? = some (co a)) (hlen : ∀ a, (co a).length = sz) (hsz : 0 < sz) (ht : P.underlying t = some (.slice e)) (hc : P.cellsOf e = sz)
    (elem : ∀ (fuel : Nat) (c : List Value), (DataW.trod enc P W base sp hd fuel e c).isSome = true → ∃ a : α, VRels W ρ (co a) c) {fuel : Nat} {cs : List Value} {x : DataW H × List MemPlace} (h : DataW.trod enc P W base sp hd fuel t cs = some x) :
    ∃ (l : List α) (X : AV), (∃ v, cs = [v] ∧ VRel W ρ X v) ∧ ArgS sz X (l.map co) ∧ X.cells? = some [X] ∧ ((x.1 = .nil ∧ l = []) ∨ ∃ ds rest, x.1 = .slice ds rest ∧ ds.length = l.length) := by
  rcases DataW.trod_slice ht h with ⟨rfl, rfl⟩ | ⟨a, len, cap, elems, rest, n, _, rfl, rfl, hb, hl, hm, hln, hels, hsp, hns⟩
  · exact ⟨[], .v (.slice none 0 0), ⟨_, rfl, .v _⟩, fun σ => ⟨fun y hy => by simp at hy, rfl⟩, rfl, .inl ⟨rfl, rfl⟩⟩
  · have each : ∀ i, i < len → ∃ y : α, ∃ c, VRels W ρ (co y) c ∧ ∀ k v, c[k]? = some v → W.cell? ((a.add (i * sz)).add k) = some v := by
      intro i hi
      have h1 := hels i hi
      obtain ⟨y, hy⟩ : ∃ y, elems[i]? = some y := ⟨elems[i]'(by omega), by simp [hln, hi]⟩
      rw [hy, Option.bind_eq_some_iff] at h1
      obtain ⟨c, h1, h2⟩ := h1
      rw [hc] at h1
      obtain ⟨z, hz⟩ := elem n c (by rw [h2]; rfl)
      refine ⟨z, c, hz, fun k v hk => ?_⟩
      unfold World.cells? at h1
      split at h1
      · have hkl : k < sz := by
          have := hz.length
          rw [hlen] at this
          have := (List.getElem?_eq_some_iff.1 hk).1
          omega
        obtain ⟨v', h3, h4⟩ := Lib.mapM_at h1 k k (List.getElem?_range hkl)
        rw [hk] at h3; cases h3
        exact h4
      · cases h1
    obtain ⟨l, hll, hq⟩ := choose_list len each
    have hds : ∃ ds rest', (DataW.slice (elems.map (·.1)) (rest.map (·.1)) : DataW H) = .slice ds rest' ∧ ds.length = l.length := ⟨_, _, rfl, by simp [hln, hll]⟩
    have harg : ArgS sz (.lst sz (l.map el)) (l.map co) := by
      intro σ
      refine ⟨fun y hy => ?_, rfl, ?_⟩
      · simp only [List.mem_map] at hy
        obtain ⟨a, _, rfl⟩ := hy; exact hlen a
      · simp [hel]
    refine ⟨l, .lst sz (l.map el), ⟨_, rfl, ?_⟩, harg, rfl, .inr hds⟩
    rcases Nat.eq_zero_or_pos len with h0 | h0
    · subst h0
      have : l = [] := List.eq_nil_of_length_eq_zero hll
      subst this
      exact .lst0
    · have hspot : a.spot = none := by
        obtain ⟨y, c, hy, hk⟩ := each 0 h0
        have hcl := hy.length
        rw [hlen] at hcl
        obtain ⟨v, hv⟩ : ∃ v, c[0]? = some v := ⟨c[0]'(by omega), by simp⟩
        have := hk 0 v hv
        simp only [Nat.zero_mul, Addr.add, if_true] at this
        unfold World.cell? at this
        split at this
        · split at this
          · cases this
          · rename_i hs; simpa using hs
        · cases this
      obtain ⟨blk, off, spot⟩ := a
      simp only at hspot
      subst hspot
      refine .lst (lrel_mk fun i z hz => ?_) (by simp [hll]) hl
      rw [List.getElem?_map] at hz
      obtain ⟨y, hy, rfl⟩ := Option.map_eq_some_iff.1 hz
      obtain ⟨c, hr, hk⟩ := hq i y hy
      refine ⟨co y, hel y, hlen y, crel_mk fun k w hw => ?_⟩
      obtain ⟨v, hv, hrel⟩ := hr.get k w hw
      refine ⟨v, ?_, hrel⟩
      have := hk k v hv
      have e : ((⟨blk, off, none⟩ : Addr).add (i * sz)).add k = ⟨blk, off + i * sz + k, none⟩ := by
        unfold Addr.add
        split <;> split <;> simp_all
      rwa [e] at this
end Go.Ai

namespace Go.Proofs.YtfmbpdacdopkgaaGreatDoor
set_option maxRecDepth 100000
open Go Go.Ai
open Go.ChangeShapes Go.WideShapes Go.ChangeAt Go.RowKit

theorem cells79 : Tryz.prog.cellsOf 79 = 3 := by kernel_rfl
theorem cells74 : Tryz.prog.cellsOf 74 = 6 := by kernel_rfl
theorem cells63 : Tryz.prog.cellsOf 63 = 3 := by kernel_rfl
theorem cells34 : Tryz.prog.cellsOf 34 = 1 := by kernel_rfl
theorem cells38 : Tryz.prog.cellsOf 38 = 1 := by kernel_rfl
theorem cells40 : Tryz.prog.cellsOf 40 = 2 := by kernel_rfl
theorem bytesOf79 : Tryz.prog.bytesOf 79 = 24 := by kernel_rfl
theorem bytesOf74 : Tryz.prog.bytesOf 74 = 48 := by kernel_rfl
theorem bytesOf3 : Tryz.prog.bytesOf 3 = 8 := by kernel_rfl

theorem take1 {c : List Value} {k : Nat} {v : Value} (h : (c.drop k).take 1 = [v]) : c[k]? = some v := by
  have := congrArg (·[0]?) h
  simpa [List.getElem?_take, List.getElem?_drop] using this

theorem len3 {α : Type} {l : List α} (h : l.length = 3) : ∃ a b c, l = [a, b, c] := by
  match l, h with
  | [a, b, c], _ => exact ⟨a, b, c, rfl⟩

section
variable {H : Type} {enc : TypeId × Value → H} {W : World} {ρ : Asg} {base : Nat} {sp : Nat → Bool} {hd : Bool}

theorem trod_fields {fs : Array Field} {t : TypeId} (hu : Tryz.prog.underlying t = some (.struct fs)) {fuel : Nat} {c : List Value} {x : DataW H × List MemPlace} (h : DataW.trod enc Tryz.prog W base sp hd (fuel + 1) t c = some x) :
    c.length = Tryz.prog.cellsOf t ∧ ∃ xs : List (DataW H × List MemPlace), x.1 = .agg (xs.map (·.1)) ∧ xs.length = fs.toList.length ∧ ∀ (j : Nat) (f : Field), fs.toList[j]? = some f → ∃ y, xs[j]? = some y ∧ DataW.trod enc Tryz.prog W base sp hd fuel f.type ((c.drop f.offset).take (Tryz.prog.cellsOf f.type)) = some y := by
  unfold DataW.trod at h
  simp only [hu] at h
  split at h
  · rename_i hl
    obtain ⟨xs, hm, rfl⟩ := Option.map_eq_some_iff.1 h
    exact ⟨hl, xs, rfl, Lib.mapM_length hm, fun j f hj => Lib.mapM_at hm j f hj⟩
  · cases h

theorem trod_put {fuel : Nat} {c : List Value} (h : (DataW.trod enc Tryz.prog W base sp hd fuel 79 c).isSome = true) : ∃ p : Put3, VRels W ρ (pc p) c := by
  cases fuel with
  | zero => simp [DataW.trod] at h
  | succ fuel =>
    obtain ⟨x, hx⟩ := Option.isSome_iff_exists.1 h
    obtain ⟨hl, xs, _, _, hf⟩ := trod_fields Tryz.underlying79 hx
    rw [cells79] at hl
    have g : ∀ (j : Nat) (f : Field), (#[(⟨"Area", 3, 0, false, "", "", 0⟩ : Field), ⟨"Slot", 3, 1, false, "", "", 8⟩, ⟨"Value", 3, 2, false, "", "", 16⟩] : Array Field).toList[j]? = some f → f.type = 3 → ∃ n, c[f.offset]? = some (.int .i64 n) := by
      intro j f hj ht
      obtain ⟨y, _, e⟩ := hf j f hj
      rw [ht, cells3] at e
      obtain ⟨n, hn⟩ := trod_int (fuel := fuel) (c := (c.drop f.offset).take 1) (by rw [e]; rfl)
      exact ⟨n, take1 hn⟩
    obtain ⟨n0, h0⟩ := g 0 _ rfl rfl
    obtain ⟨n1, h1⟩ := g 1 _ rfl rfl
    obtain ⟨n2, h2⟩ := g 2 _ rfl rfl
    match c, hl with
    | [c0, c1, c2], _ =>
      simp at h0 h1 h2
      subst h0 h1 h2
      exact ⟨(n0, n1, n2), .cons (.v _) (.cons (.v _) (.cons (.v _) .nil))⟩

theorem trod_link {fuel : Nat} {c : List Value} (h : (DataW.trod enc Tryz.prog W base sp hd fuel 74 c).isSome = true) : ∃ p : Lk, VRels W ρ (lc p) c := by
  cases fuel with
  | zero => simp [DataW.trod] at h
  | succ fuel =>
    obtain ⟨x, hx⟩ := Option.isSome_iff_exists.1 h
    obtain ⟨hl, xs, _, _, hf⟩ := trod_fields Tryz.underlying74 hx
    rw [cells74] at hl
    have g : ∀ (j : Nat) (f : Field), (#[(⟨"Unit", 3, 0, false, "", "", 0⟩ : Field), ⟨"Cell", 3, 1, false, "", "", 8⟩, ⟨"Kind", 3, 2, false, "", "", 16⟩, ⟨"Area", 3, 3, false, "", "", 24⟩, ⟨"Slot", 3, 4, false, "", "", 32⟩, ⟨"Out", 4, 5, false, "", "", 40⟩] : Array Field).toList[j]? = some f → f.type = 3 → ∃ n, c[f.offset]? = some (.int .i64 n) := by
      intro j f hj ht
      obtain ⟨y, _, e⟩ := hf j f hj
      rw [ht, cells3] at e
      obtain ⟨n, hn⟩ := trod_int (fuel := fuel) (c := (c.drop f.offset).take 1) (by rw [e]; rfl)
      exact ⟨n, take1 hn⟩
    obtain ⟨n0, h0⟩ := g 0 _ rfl rfl
    obtain ⟨n1, h1⟩ := g 1 _ rfl rfl
    obtain ⟨n2, h2⟩ := g 2 _ rfl rfl
    obtain ⟨n3, h3⟩ := g 3 _ rfl rfl
    obtain ⟨n4, h4⟩ := g 4 _ rfl rfl
    obtain ⟨y, _, e⟩ := hf 5 _ rfl
    simp only [cells4] at e
    obtain ⟨b, hb⟩ := trod_bool (fuel := fuel) (c := (c.drop 5).take 1) (by rw [e]; rfl)
    have h5 := take1 hb
    match c, hl with
    | [c0, c1, c2, c3, c4, c5], _ =>
      simp at h0 h1 h2 h3 h4 h5
      subst h0 h1 h2 h3 h4 h5
      exact ⟨⟨n0, n1, n2, n3, n4, b⟩, .cons (.v _) (.cons (.v _) (.cons (.v _) (.cons (.v _) (.cons (.v _) (.cons (.v _) .nil)))))⟩

/-- A list of puts, handed. -/
theorem open_puts {t' : Nat} {v : Value} {d : DataW H} {ps : List MemPlace} (hval : Value.okWide Tryz.prog W .any t' 55 v) (h : DataW.Trod enc Tryz.prog W base sp hd 55 v d ps) :
    ∃ (l : List Put3) (X : AV), VRel W ρ X v ∧ Arg 3 X (pcs l) ∧ X.cells? = some [X] ∧ ((d = .nil ∧ l = []) ∨ ∃ ds rest, d = .slice ds rest ∧ ds.length = l.length) := by
  obtain ⟨fuel, h⟩ := h
  obtain ⟨a, n, c, rfl⟩ := okWide_slice Tryz.underlying55 hval
  obtain ⟨l, X, ⟨v', hv, hr⟩, ha, hx, hd'⟩ := open_sl (ρ := ρ) pc (fun p => .agg (pc p)) (fun _ => rfl) (fun _ => rfl) (by decide) Tryz.underlying55 cells79 (fun fuel c h => trod_put h) h
  simp [Value.cells] at hv
  subst hv
  exact ⟨l, X, hr, ha, hx, hd'⟩
/-- A list of links, in a cell. -/
theorem open_links {fuel : Nat} {cs : List Value} {x : DataW H × List MemPlace} (h : DataW.trod enc Tryz.prog W base sp hd fuel 34 cs = some x) :
    ∃ (l : List Lk) (X : AV), (∃ v, cs = [v] ∧ VRel W ρ X v) ∧ Arg 6 X (lcs l) ∧ X.cells? = some [X] ∧ ((x.1 = .nil ∧ l = []) ∨ ∃ ds rest, x.1 = .slice ds rest ∧ ds.length = l.length) :=
  open_sl (ρ := ρ) lc (fun p => .agg (lc p)) (fun _ => rfl) (fun _ => rfl) (by decide) Tryz.underlying34 cells74 (fun fuel c h => trod_link h) h
/-- A list of numbers, in a cell. -/
theorem open_nums {fuel : Nat} {cs : List Value} {x : DataW H × List MemPlace} (h : DataW.trod enc Tryz.prog W base sp hd fuel 38 cs = some x) :
    ∃ (l : List Int) (X : AV), (∃ v, cs = [v] ∧ VRel W ρ X v) ∧ Arg 1 X (ones l) ∧ X.cells? = some [X] ∧ ((x.1 = .nil ∧ l = []) ∨ ∃ ds rest, x.1 = .slice ds rest ∧ ds.length = l.length) :=
  open_sl (ρ := ρ) (fun n : Int => [AV.i n]) (fun n => AV.i n) (fun _ => rfl) (fun _ => rfl) (by decide) Tryz.underlying38 cells3 (fun fuel c h => by
    obtain ⟨n, rfl⟩ := trod_int h
    exact ⟨n, .cons (.v _) .nil⟩) h

/-- A slot and links, handed. -/
theorem open_slot {t' : Nat} {v : Value} {d : DataW H} {ps : List MemPlace} (hval : Value.okWide Tryz.prog W .any t' 63 v) (h : DataW.Trod enc Tryz.prog W base sp hd 63 v d ps) :
    ∃ (a n : Int) (l : List Lk) (X : AV), VRel W ρ (.agg [.i a, .i n, X]) v ∧ Arg 6 X (lcs l) ∧ X.cells? = some [X] ∧ ∃ d0 d1 d2, d = .agg [d0, d1, d2] ∧ ((d2 = .nil ∧ l = []) ∨ ∃ ds rest, d2 = .slice ds rest ∧ ds.length = l.length) := by
  obtain ⟨fuel, h⟩ := h
  obtain ⟨cs, rfl, hsz⟩ := okWide_struct Tryz.underlying63 hval
  cases fuel with
  | zero => simp [DataW.trod] at h
  | succ fuel =>
    obtain ⟨hl, xs, hx, hlen, hf⟩ := trod_fields Tryz.underlying63 h
    rw [cells63] at hl
    obtain ⟨y0, i0, e0⟩ := hf 0 _ rfl
    obtain ⟨y1, i1, e1⟩ := hf 1 _ rfl
    obtain ⟨y2, i2, e2⟩ := hf 2 _ rfl
    simp only [cells3, cells34] at e0 e1 e2
    obtain ⟨a, h0⟩ := trod_int (fuel := fuel) (by rw [e0]; rfl)
    obtain ⟨n, h1⟩ := trod_int (fuel := fuel) (by rw [e1]; rfl)
    obtain ⟨l, X, ⟨w, h2, hr⟩, hA, hX, hd2⟩ := open_links (ρ := ρ) e2
    have p0 := take1 h0
    have p1 := take1 h1
    have p2 := take1 h2
    obtain ⟨cs⟩ := cs
    simp only [Value.cells] at hl p0 p1 p2
    have hxs : d = .agg (xs.map (·.1)) := hx
    obtain ⟨c0, c1, c2, rfl⟩ := len3 hl
    obtain ⟨x0, x1, x2, rfl⟩ := len3 hlen
    simp at p0 p1 p2 i0 i1 i2
    subst p0 p1 p2 i0 i1 i2
    exact ⟨a, n, l, X, .agg (.cons (.v _) (.cons (.v _) (.cons hr .nil))), hA, hX, x0.1, x1.1, x2.1, hxs, hd2⟩
end
end Go.Proofs.YtfmbpdacdopkgaaGreatDoor
