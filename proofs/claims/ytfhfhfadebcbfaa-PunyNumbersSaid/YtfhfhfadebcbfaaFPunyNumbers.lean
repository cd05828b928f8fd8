/- Proved: the statement 'PunyNumbersSaid' of the given program: for every input the Go function sheavelaw41.PunyNumbers returns true and leaves all memory that was there as it was. No condition. The frame is the kit's shell (proof-skeleton), filled by the walk of the Go text in YtfhfhfadebcbfaaM25. -/
import Derived.Test.YtfhfhfadebcbfaaRows
import Derived.Test.YtfhfhfadebcbfaaM25
import Derived.WalkKit
import Derived.ProofKit
import Derived.OpenShut
import Derived.ShutString
import Derived.ChangeOld
import Derived.Below
namespace Go.Proofs.Ytfhfhfadebcbfaa.punyNumbers
open Go.ChangeShapes Go.WideShapes Go.ChangeAt Go.RowKit
open Go.ChangeMaps (open_string shut_string)
set_option linter.unusedVariables false

theorem own : ownKnob Try.prog.godebug = none := by kernel_rfl
theorem laidOut : laidOutB Try.prog = true := by kernel_rfl

theorem walk (n m : Int) (f : Bool) (c : Int) (w : World) (hc : (Lit.int .u8 c).wf = true) :
    Calls Try.prog 4 #[.agg #[.int .i64 n, .int .i64 m], .bool f, .int .u8 c] w fun e w' => e = .returned (.bool true) ∧ Below w.heap.size w w' := PunyNumbers_walk n m f c w hc

/-- An array of two ints that came in. -/
theorem open_two {H : Type} {enc : TypeId × Value → H} {w : World} {bw b : Nat} {sp : Nat → Bool} {held : Bool} {v : Value} {d : DataW H} {p : List MemPlace} (hval : Value.okWide Try.prog w .any bw 32 v)
    (hd : DataW.Trod enc Try.prog w b sp held 32 v d p) : ∃ n m : Int, v = .agg #[.int .i64 n, .int .i64 m] := by
  simp only [Value.okWide, Try.underlying32] at hval
  obtain ⟨cs, rfl, h2, _⟩ := hval
  have hn : cs.size = 2 := h2.trans (by kernel_rfl)
  obtain ⟨fuel, hf⟩ := hd
  obtain ⟨ys, q, rfl, _, _, hl, hel⟩ := DataW.trod_array Try.underlying32 hf
  have ce : Try.prog.cellsOf 3 = 1 := by kernel_rfl
  obtain ⟨l⟩ := cs
  match l, hn with
  | [c0, c1], _ =>
    have e0 := hel 0 (by omega)
    have e1 := hel 1 (by omega)
    rw [ce] at e0 e1
    match ys, hl with
    | [y0, y1], _ =>
      obtain ⟨n, h0, _⟩ := DataW.trod_int Try.underlying3 (show DataW.trod enc Try.prog w b sp held q 3 [c0] = some y0 from e0)
      obtain ⟨m, h1, _⟩ := DataW.trod_int Try.underlying3 (show DataW.trod enc Try.prog w b sp held q 3 [c1] = some y1 from e1)
      refine ⟨n, m, ?_⟩
      rw [List.cons.inj h0 |>.1, List.cons.inj h1 |>.1]

/-! ### THE ROW's STEP: WRITTEN OUT: LEAVE IT -/
set_option maxRecDepth 100000 in
theorem lifted (os : Os) (started : os.Started) (H : Type) (enc : TypeId × Value → H) :
    ReturnsInHanded {} Try.checked os 4 .any (Rows.punyNumbersSpec.pre6 enc Try.prog Try.f4 Rows.punyNumbersRow.domain false) (Rows.punyNumbersSpec.post enc Try.prog Try.f4 false true false false) := by
  refine returnsInHanded_of_change (C := Try.checked) own started (by kernel_rfl) Try.func4
    (ChangeSpec.witness6 (enc := enc) (C := Try.checked) false ⟨#[], #[.agg #[.int .i64 0, .int .i64 0], .bool false, .int .u8 0], []⟩ 8 (by kernel_rfl) (by kernel_rfl) (by kernel_rfl) (by kernel_rfl)) ?_
  intro W base args ds gs before hval0 hW hcnd _
  have hval : ∀ (j : Nat) t v, Try.f4.params[j]? = some t → args[j]? = some v → Value.okWide Try.prog W .any base t v := hval0
  have hW' := hW
  obtain ⟨p, q, hA0, hV, rfl, hfz, hnd⟩ := hW
  have hA : DataW.TrodAll enc Try.prog W 0 (fun _ => true) true Try.f4.params.toList args.toList ds p := hA0
  rw [Try.params4] at hA hval
  obtain ⟨v0, vs0, d0, ds0, p0, q0, hargs, rfl, rfl, h0, r0⟩ := trodAll_cons hA
  obtain ⟨v1, vs1, d1, ds1, p1, q1, rfl, rfl, rfl, h1, r1⟩ := trodAll_cons r0
  obtain ⟨v2, vs2, d2, ds2, p2, q2, rfl, rfl, rfl, h2, r2⟩ := trodAll_cons r1
  obtain ⟨rfl, rfl, rfl⟩ := trodAll_nil r2
  obtain rfl : args = #[v0, v1, v2] := by cases args; simp_all
  obtain ⟨rfl, rfl⟩ := trodVars_none hV
  have k0 := h0
  have lt0 : ∀ x ∈ p0, x.block < W.heap.size := by obtain ⟨m, hm⟩ := k0; exact DataW.trod_lt m _ _ _ hm
  have k1 := h1
  have lt1 : ∀ x ∈ p1, x.block < W.heap.size := by obtain ⟨m, hm⟩ := k1; exact DataW.trod_lt m _ _ _ hm
  have k2 := h2
  have lt2 : ∀ x ∈ p2, x.block < W.heap.size := by obtain ⟨m, hm⟩ := k2; exact DataW.trod_lt m _ _ _ hm
  obtain ⟨n, m, rfl⟩ := open_two (hval 0 32 v0 rfl rfl) h0
  obtain ⟨f, rfl, _, _⟩ := open_bool Try.underlying4 (hval 1 4 v1 rfl rfl) h1
  obtain ⟨c, rfl, _, _, wc⟩ := Go.ChangeShapes.open_int Try.underlying5 (hval 2 5 v2 rfl rfl) h2
  clear hA0 hval0
  refine (walk n m f c W wc).mono fun e W' ⟨he, bel⟩ => ?_
  subst he
  exact ⟨_, rfl, _, _, _, [], _, [], hW', trodAll_mk1 (shut_bool Try.underlying4 _), (trodAll_cons_mk (Below.trod laidOut (by kernel_rfl) (of_decide_eq_true (by kernel_rfl)) k0 bel lt0) (trodAll_cons_mk (Below.trod laidOut (by kernel_rfl) (of_decide_eq_true (by kernel_rfl)) k1 bel lt1) (trodAll_cons_mk (Below.trod laidOut (by kernel_rfl) (of_decide_eq_true (by kernel_rfl)) k2 bel lt2) trodAll_mk0))), rfl, bel.frame _, fun h => by cases h⟩

theorem over : Rows.punyNumbersRow.holds Try.pinned (OpenSpec.ofChange Rows.punyNumbersSpec) :=
  OpenClaim.holds_of_wide 4 Try.f4 rfl rfl rfl rfl rfl rfl rfl ⟨rfl, rfl, rfl, rfl, rfl⟩ rfl rfl rfl rfl rfl (by kernel_rfl) Try.func4 (by kernel_rfl)
    (of_decide_eq_true (by kernel_rfl)) (by unfold Func.isWrapper; first | (rw [if_pos (by decide +kernel)]; kernel_rfl) | (rw [if_neg (by decide +kernel)]; exact ⟨rfl, rfl⟩))
    (fun os started H enc _ => lifted os started H enc)

/-- ████ THE STATEMENT ████ -/
theorem proved : Rows.PunyNumbersSaid := over
#print axioms proved
end Go.Proofs.Ytfhfhfadebcbfaa.punyNumbers
