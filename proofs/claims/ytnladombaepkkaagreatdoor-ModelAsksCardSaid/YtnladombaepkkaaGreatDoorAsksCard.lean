/- ModelAsks: whatever plan and name, the law answers true and its arguments read as before; and its tied card. Conditions: none. -/
import Derived.Test.YtnladombaepkkaaGreatDoorRow
import Derived.Test.YtnladombaepkkaaGreatDoorAsks
import Derived.Test.YtnladombaepkkaaGreatDoorCards
import Derived.Test.YtnladombaepkkaaGreatDoorTie
import Derived.WalkKit
import Derived.ProofKit
import Derived.OpenShut
import Derived.Lay
import Derived.MakeChecks
import Derived.Deep.DeepHandedRow
import Derived.SevenTiedAt
set_option linter.all false
namespace Go.Proofs.YtnladombaepkkaaGreatDoor
open Go.ChangeShapes Go.WideShapes Go.ChangeAt Go.RowKit Go Go.Abs
namespace asksRow
theorem own : ownKnob Tryz.prog.godebug = none := by kernel_rfl
theorem tabs {W : World} (h : laidMetH Tryz.prog Rows.modelAsksRow.laid W) : Tabs W where
  g0 := tab_of h (nm := "graver/ehdr.sizes") (t := 203) (n := 13) (by kernel_rfl) (by kernel_rfl) (by kernel_rfl) (by kernel_rfl) (by kernel_rfl) (by decide)
  g1 := tab_of h (nm := "graver/shdr.sizes") (t := 236) (n := 10) (by kernel_rfl) (by kernel_rfl) (by kernel_rfl) (by kernel_rfl) (by kernel_rfl) (by decide)
  g2 := tab_of h (nm := "graver/phdr.wideSizes") (t := 239) (n := 8) (by kernel_rfl) (by kernel_rfl) (by kernel_rfl) (by kernel_rfl) (by kernel_rfl) (by decide)
  g3 := tab_of h (nm := "graver/phdr.narrowSizes") (t := 239) (n := 8) (by kernel_rfl) (by kernel_rfl) (by kernel_rfl) (by kernel_rfl) (by kernel_rfl) (by decide)
  g4 := tab_of h (nm := "graver/symrec.wideSizes") (t := 243) (n := 6) (by kernel_rfl) (by kernel_rfl) (by kernel_rfl) (by kernel_rfl) (by kernel_rfl) (by decide)
  g5 := tab_of h (nm := "graver/symrec.narrowSizes") (t := 243) (n := 6) (by kernel_rfl) (by kernel_rfl) (by kernel_rfl) (by kernel_rfl) (by kernel_rfl) (by decide)
theorem heap8 {W : World} (h : W.ShapedOpen Tryz.prog) : 8 < W.heap.size := by
  have hs : (((begin Tryz.prog (fun _ _ => 0) default).world.heap[8]?).bind Obj.row?).isSome = true := by kernel_rfl
  obtain ⟨⟨zero, t⟩, hz⟩ := Option.isSome_iff_exists.1 hs
  obtain ⟨cs, hc, _⟩ := h.1 8 zero t (of_decide_eq_true (by kernel_rfl)) hz
  exact (Array.getElem?_eq_some_iff.1 hc).1
theorem callFunc_enter {P : Program} {f : FuncId} {fn : Func} {c : Code} (hf : P.funcs[f]? = some fn) (hb : fn.body = some c) (hn : (fn.name == "runtime.NumGoroutine") = false) (args : Array Value) (w : World) : (callFunc f args).run P w = .ok (.enter f args) w := by
  simp [callFunc, hf, hb]; simpa using hn
theorem enters {args : Array Value} {W : World} (c : Value) (w' : World) : (callFunc 5 args).run Tryz.prog W ≠ .ok (.value c) w' := by
  intro h
  obtain ⟨b, hb⟩ := Option.isSome_iff_exists.1 (show Tryz.f5.body.isSome = true by kernel_rfl)
  rw [callFunc_enter Tryz.func5 hb (by kernel_rfl)] at h
  cases h
theorem params5 : Tryz.f5.params = #[27, 9] := by kernel_rfl
set_option maxRecDepth 20000 in
theorem contract (E : Type) (enc : TypeId × Value → E) (W : World) (base : Nat) (args : Array Value) (ds gs : List (DataW E)) (before : List MemPlace)
    (hval : ∀ (j : Nat) t v, Tryz.f5.params[j]? = some t → args[j]? = some v → Value.okWide Tryz.prog W .any base t v)
    (hW : DataW.Whole enc Tryz.prog Tryz.f5.params.toList Rows.modelAsksSpec.vars false W args.toList ds gs before) (hL : laidMetH Tryz.prog Rows.modelAsksRow.laid W) (hS : W.ShapedOpen Tryz.prog) :
    Calls Tryz.prog 5 args W fun e W' => ∃ v, e = .returned v ∧ Rows.modelAsksSpec.post enc Tryz.prog Tryz.f5 false true false false W args v W' := by
  have hW' := hW
  obtain ⟨p, q, hA0, hV, rfl, hfz, hnd⟩ := hW
  have hA : DataW.TrodAll enc Tryz.prog W 0 (fun _ => true) true Tryz.f5.params.toList args.toList ds p := hA0
  rw [params5] at hA hval
  obtain ⟨v0, vs0, d0, ds0, p0, q0, hargs, rfl, rfl, h0, r0⟩ := trodAll_cons hA
  obtain ⟨v1, vs1, d1, ds1, p1, q1, rfl, rfl, rfl, h1, r1⟩ := trodAll_cons r0
  obtain ⟨rfl, rfl, rfl⟩ := trodAll_nil r1
  obtain rfl : args = #[v0, v1] := by cases args; simp_all
  obtain ⟨rfl, rfl⟩ := trodVars_none hV
  simp only [List.append_nil] at hW'
  have h0k := h0
  have h1k := h1
  obtain ⟨s, rfl⟩ := okWide_string u9 (hval 1 9 v1 rfl rfl)
  obtain ⟨dd, hdd, arr, rfl, _⟩ := desc_of hC ty27
  obtain ⟨cs, rfl, _⟩ := okWide_struct hdd (hval 0 27 v0 rfl rfl)
  obtain ⟨fuel, ht⟩ := h0
  obtain ⟨hl, hf⟩ := trod_fields ty27 ht
  rw [c27] at hl
  obtain ⟨cs⟩ := cs
  simp only [Value.cells] at hl hf
  obtain ⟨w0, w1, w2, w3, w4, rfl⟩ := len5 hl
  obtain ⟨_, _, g0⟩ := hf 0 0 1 3 rfl
  obtain ⟨_, _, g1⟩ := hf 1 1 1 22 rfl
  obtain ⟨_, _, g2⟩ := hf 2 2 1 23 rfl
  obtain ⟨_, _, g3⟩ := hf 3 3 1 24 rfl
  obtain ⟨_, _, g4⟩ := hf 4 4 1 25 rfl
  rw [c3] at g0
  rw [c22] at g1
  rw [c23] at g2
  rw [c24] at g3
  rw [c25] at g4
  obtain ⟨fl, rfl⟩ := trod_i g0
  haveI i1 : Inhabited PSec := ⟨⟨[], 0, 0, 0, []⟩⟩
  haveI i2 : Inhabited PSym := ⟨⟨[], 0, 0, 0⟩⟩
  haveI i3 : Inhabited RelP := ⟨⟨0, 0, 0⟩⟩
  obtain ⟨ps, _, B1⟩ := open_arg PSec.cells (fun _ => True) u22 c84 (by omega) (fun _ => rfl) (fun _ _ _ h => elem84 h) (cs := [w1]) g1
  obtain ⟨ss, _, B2⟩ := open_arg PSym.cells (fun _ => True) u23 c53 (by omega) (fun _ => rfl) (fun _ _ _ h => elem53 h) (cs := [w2]) g2
  obtain ⟨rs, _, B3⟩ := open_arg RelP.cells (fun _ => True) u24 c54 (by omega) (fun _ => rfl) (fun _ _ _ h => elem54 h) (cs := [w3]) g3
  obtain ⟨gs, _, B4⟩ := open_arg (fun s : List UInt8 => [AV.s s]) (fun _ => True) u25 c9 (by omega) (fun _ => rfl) (fun _ _ _ h => elem9 h) (cs := [w4]) g4
  simp only [List.cons.injEq, and_true] at B1 B2 B3 B4
  obtain ⟨a1, o1, x1, A1⟩ := argR_of (f := PSec.cells) (sz := 5) (fun _ => rfl) 9 B1
  obtain ⟨a2, o2, x2, A2⟩ := argR_of (f := PSym.cells) (sz := 4) (fun _ => rfl) 10 B2
  obtain ⟨a3, o3, x3, A3⟩ := argR_of (f := RelP.cells) (sz := 3) (fun _ => rfl) 11 B3
  obtain ⟨a4, o4, x4, A4⟩ := argR_of (f := (fun s : List UInt8 => [AV.s s])) (sz := 1) (fun _ => rfl) 12 B4
  obtain ⟨r, H, sim, hH, hH9, hro, w1', w2', w3', w4', l1, l2, l3, l4⟩ := sim_of (tabs hL) (heap8 hS) A1 A2 A3 A4
  have hcall := below_of (Q := fun v => v = .b true) (cargs := [.agg ⟨[.int .i64 fl, w1, w2, w3, w4]⟩, .string s]) sim hro (by
    simp only [VRL, VR]
    exact ⟨_, _, rfl, ⟨_, rfl, _, _, rfl, rfl, _, _, rfl, w1', _, _, rfl, w2', _, _, rfl, w3', _, _, rfl, w4', rfl⟩, _, _, rfl, rfl, rfl⟩) (fun c w' => enters c w')
    ((asks_ok fl s.data.toList ps ss rs gs a1 a2 a3 a4 H hH hH9 l1 l2 l3 l4).mono fun v K h => h.1)
  refine hcall.mono ?_
  rintro e W' ⟨⟨v, c, r', rfl, rfl, hvr⟩, hb⟩
  simp only [VR] at hvr
  subst hvr
  have hlt : ∀ x ∈ p0 ++ p1, x.block < W.heap.size := fun x hx => by simpa using hW'.lt x (by simpa using hx)
  have lo : laidOutB Tryz.prog = true := by kernel_rfl
  refine ⟨_, rfl, _, _, _, [], _, [], hW', trodAll_cons_mk (shut_bool u4 _) trodAll_mk0,
    trodAll_cons_mk (Below.trod lo (by kernel_rfl) (of_decide_eq_true (by kernel_rfl)) h0k hb (fun x hx => hlt x (by simp [hx])))
      (trodAll_cons_mk (Below.trod lo (by kernel_rfl) (of_decide_eq_true (by kernel_rfl)) h1k hb (fun x hx => hlt x (by simp [hx]))) trodAll_mk0),
    rfl, hb.frame _, fun h => by cases h⟩
/-- A world for the witness: the settled one, with the listed tables. -/
def wargs : Array Value := #[.agg #[.int .i64 0, .slice none 0 0, .slice none 0 0, .slice none 0 0, .slice none 0 0], .string ⟨#[]⟩]
noncomputable def ww (os : Os) : World := World.laidAll Tryz.prog os Rows.modelAsksRow.laid
theorem laid_met (os : Os) : laidMetH Tryz.prog Rows.modelAsksRow.laid ((ww os).forCall (fun _ _ => 0) ⟨#[], wargs, []⟩).memory := by
  rw [MakeChecks.laidMetH_plain _ _ _ (by kernel_rfl)]
  exact laidMet_laidAll _ (by kernel_rfl) (by kernel_rfl)
theorem reads (os : Os) {E : Type} (enc : TypeId × Value → E) : ∃ places, DataW.whole enc Tryz.prog ((ww os).forCall (fun _ _ => 0) ⟨#[], wargs, []⟩).memory Tryz.f5.params.toList Rows.modelAsksSpec.vars false wargs.toList 8 =
    some ([.agg [.lit (.int .i64 0), .nil, .nil, .nil, .nil], .lit (.string [])], [], places) := ⟨[], by kernel_rfl⟩
set_option maxRecDepth 100000 in
theorem lifted (os : Os) (started : os.Started) (E : Type) (enc : TypeId × Value → E) (F : Stop.Interp) :
    ReturnsInHanded {} Tryz.checked os 5 .any ((OpenSpec.ofChange Rows.modelAsksSpec).preRow enc Tryz.prog Tryz.f5 Rows.modelAsksRow.domain false Rows.modelAsksRow.laid) (((OpenSpec.ofChange Rows.modelAsksSpec).at F).post enc Tryz.prog Tryz.f5 false true false false) := by
  obtain ⟨places, hx⟩ := reads os enc
  refine returnsInHanded_of_row (C := Tryz.checked) (s := OpenSpec.ofChange Rows.modelAsksSpec) own started (by kernel_rfl) Tryz.func5
    (witness_row_at (enc := enc) (C := Tryz.checked) false (ww os) wargs (World.laidAll_os _ _ _) (by kernel_rfl) (by kernel_rfl) (by kernel_rfl)
      (OpenSpec.preRow_of_cond 8 hx (by kernel_rfl) (fun k hk => by cases hk) (by kernel_rfl) (laid_met os))) ?_
  intro W base args ds gs before hval hW _ _ _ hL hS _
  exact contract E enc W base args ds gs before hval hW hL hS
theorem said : Rows.ModelAsksSaid :=
  OpenClaim.holds_of_cond 5 Tryz.f5 rfl rfl rfl rfl rfl rfl rfl ⟨rfl, rfl, rfl, rfl, rfl⟩ rfl rfl rfl rfl rfl (by kernel_rfl) Tryz.func5 (by kernel_rfl)
    (of_decide_eq_true (by kernel_rfl)) (by unfold Func.isWrapper; first | (rw [if_pos (by decide +kernel)]; kernel_rfl) | (rw [if_neg (by decide +kernel)]; exact ⟨rfl, rfl⟩))
    (fun os started H enc _ F => by rw [OpenClaim.pre_eq_preRow]; exact lifted os started H enc F)
theorem plain (f : FuncId) (fn : Func) (hf : Tryz.pinned.checked.prog.funcNamed "graver/graverlaw13.ModelAsks" = some f) (hfn : Tryz.pinned.checked.prog.funcs[f]? = some fn) :
    false = Tryz.pinned.checked.prog.looks [] ∧ ∀ (j : Nat) t, fn.params[j]? = some t → Tryz.pinned.checked.prog.wantsStandIn t = false := by
  obtain rfl : f = 5 := Option.some.inj ((show Tryz.prog.funcNamed "graver/graverlaw13.ModelAsks" = some 5 by kernel_rfl).symm.trans hf) |>.symm
  obtain rfl : fn = Tryz.f5 := (Option.some.inj (Tryz.func5.symm.trans hfn)).symm
  refine ⟨by kernel_rfl, fun j t ht => ?_⟩
  rw [params5] at ht
  have hm : t ∈ [27, 9] := by simpa using Array.mem_of_getElem? ht
  have hall : ([27, 9].all fun u => !Tryz.prog.wantsStandIn u) = true := by kernel_rfl
  exact (show Tryz.prog.wantsStandIn t = false by simpa using List.all_eq_true.1 hall t hm)
end asksRow
/-- The tied card of ModelAsks. -/
theorem modelAsks_card : Rows.ModelAsksCardSaid :=
  Claim7.holds_tied_plain_at .later [] _ _ _ _ asksRow.said (fun _ h => by cases h) (by kernel_rfl) (fun _ h => by cases h) modelAsks_row_tie rfl ⟨rfl, rfl⟩ (by kernel_rfl) rfl asksRow.plain (by kernel_rfl)
#print axioms modelAsks_card
end Go.Proofs.YtnladombaepkkaaGreatDoor
