/- Proved: the statement 'MailidThreadsCardSaid' of the given program: for every input the Go function sheavelaw51.MailidThreads returns true and leaves all memory that was there as it was. Condition: the two tables of unicode/utf8 hold what their initialisers lay; the card ties that to the program's text (over the pruned copy that the seat names). The frame is the kit's shell (proof-skeleton), filled by the walk of the Go text in YtcmiopkcgoanpaaDoorM28. -/
import Derived.Test.YtcmiopkcgoanpaaDoorRows
import Derived.Test.YtcmiopkcgoanpaaDoorM28
import Derived.Test.YtcmiopkcgoanpaaDoorM24
import Derived.Test.YtcmiopkcgoanpaaDoorM30
import Derived.LaidMore
import Derived.SevenTiedAt
import Derived.Stop.Joined
import Derived.WalkKit
import Derived.ProofKit
import Derived.OpenShut
import Derived.ShutString
import Derived.ChangeOld
import Derived.Below
namespace Go.Proofs.YtcmiopkcgoanpaaDoor.mailidThreads
open Go.ChangeShapes Go.WideShapes Go.ChangeAt Go.RowKit
open Go.ChangeMaps (open_string shut_string)
set_option linter.unusedVariables false

theorem own : ownKnob Tryd.prog.godebug = none := by kernel_rfl
theorem laidOut : laidOutB Tryd.prog = true := by kernel_rfl

theorem walk (s : Value) (l : List (Value × Value)) (L : List (List Int × List Int)) (x y : Value) (xs ys : List Int) (n : Int) (w : World) (hT : Tz w) (hs : Row2 w s l) (hl : IdL w l L) (hg : ∀ q ∈ L, Rg 0 256 q.1 ∧ Rg 0 256 q.2) (h0 : Row w x (ints .u8 xs)) (g0 : Rg 0 256 xs) (h1 : Row w y (ints .u8 ys)) (g1 : Rg 0 256 ys) (hn : (Lit.int .i64 n).wf = true) :
    Calls Tryd.prog 5 #[s, .agg #[x, y], .int .i64 n] w fun e w' => e = .returned (.bool true) ∧ Below w.heap.size w w' := MailidThreads_walk s l L x y xs ys n w hT hs hl hg h0 g0 h1 g1 hn

/-! ### THE ROW's STEP: WRITTEN OUT: LEAVE IT -/
set_option maxRecDepth 100000 in
theorem lifted (os : Os) (started : os.Started) (H : Type) (enc : TypeId × Value → H) :
    ReturnsInHanded {} Tryd.checked os 5 .any (fun w args => (Rows.mailidThreadsSpec.pre enc Tryd.prog Tryd.f5 [] false w args ∧ laidMetH Tryd.prog laid2 w) ∧ sizedMet enc Tryd.prog Tryd.f5 (OpenSpec.ofChange Rows.mailidThreadsSpec) false w args) (Rows.mailidThreadsSpec.post enc Tryd.prog Tryd.f5 false true false false) := by
  refine returnsInHanded_of_change_and (C := Tryd.checked) (X := fun w _ => laidMetH Tryd.prog laid2 w) (fun _ _ _ hh h => h.of_heap hh) own started (by kernel_rfl) Tryd.func5
    (ChangeSpec.witness_shaped (enc := enc) (C := Tryd.checked) (os := os) (X := fun w _ => laidMetH Tryd.prog laid2 w) false (World.laidAll Tryd.prog os laid2) #[.slice none 0 0, .agg #[.slice none 0 0, .slice none 0 0], .int .i64 0] 8 (World.laidAll_os _ _ _) (World.shaped_of_ZipB (by kernel_rfl) (by kernel_rfl)) (by kernel_rfl) (by kernel_rfl) (by kernel_rfl) (door_met os _)) ?_
  intro W base args ds gs before hval0 hW _ _ hL _
  have hval : ∀ (j : Nat) t v, Tryd.f5.params[j]? = some t → args[j]? = some v → Value.okWide Tryd.prog W .any base t v := hval0
  have hW' := hW
  obtain ⟨p, q, hA0, hV, rfl, hfz, hnd⟩ := hW
  have hA : DataW.TrodAll enc Tryd.prog W 0 (fun _ => true) true Tryd.f5.params.toList args.toList ds p := hA0
  rw [Tryd.params5] at hA hval
  obtain ⟨v0, vs0, d0, ds0, p0, q0, hargs, rfl, rfl, h0, r0⟩ := trodAll_cons hA
  obtain ⟨v1, vs1, d1, ds1, p1, q1, rfl, rfl, rfl, h1, r1⟩ := trodAll_cons r0
  obtain ⟨v2, vs2, d2, ds2, p2, q2, rfl, rfl, rfl, h2, r2⟩ := trodAll_cons r1
  obtain ⟨rfl, rfl, rfl⟩ := trodAll_nil r2
  obtain rfl : args = #[v0, v1, v2] := by cases args; simp_all
  obtain ⟨rfl, rfl⟩ := trodVars_none hV
  have k0 := h0
  have lt0 : ∀ x ∈ p0, x.block < W.heap.size := by obtain ⟨m, hm⟩ := k0; exact DataW.trod_lt m _ _ _ hm
  have k1 := h1
  have lt1 : ∀ x ∈ p1, x.block < W.heap.size := by obtain ⟨m, hm⟩ := k1; exact DataW.trod_lt m _ _ _ hm
  have k2 := h2
  have lt2 : ∀ x ∈ p2, x.block < W.heap.size := by obtain ⟨m, hm⟩ := k2; exact DataW.trod_lt m _ _ _ hm
  obtain ⟨l, L, ws, wl, wg⟩ := open_ids (hval 0 35 v0 rfl rfl) h0
  obtain ⟨x, y, xs, ys, rfl, w0, g0, w1, g1⟩ := open_id (hval 1 29 v1 rfl rfl) h1
  obtain ⟨n, rfl, wn⟩ := open_n (hval 2 3 v2 rfl rfl) h2
  clear hA0 hval0
  refine (walk v0 l L x y xs ys n W (of_laid hL) ws wl wg w0 g0 w1 g1 wn).mono fun e W' ⟨he, bel⟩ => ?_
  subst he
  exact ⟨_, rfl, _, _, _, [], _, [], hW', trodAll_mk1 (shut_bool Tryd.underlying4 _), (trodAll_cons_mk (Below.trod laidOut (by kernel_rfl) (of_decide_eq_true (by kernel_rfl)) k0 bel lt0) (trodAll_cons_mk (Below.trod laidOut (by kernel_rfl) (of_decide_eq_true (by kernel_rfl)) k1 bel lt1) (trodAll_cons_mk (Below.trod laidOut (by kernel_rfl) (of_decide_eq_true (by kernel_rfl)) k2 bel lt2) trodAll_mk0))), rfl, bel.frame _, fun h => by cases h⟩

theorem over : Rows.mailidThreadsRow.holds Tryd.pinned (OpenSpec.ofChange Rows.mailidThreadsSpec) :=
  OpenClaim.holds_of_wide 5 Tryd.f5 rfl rfl rfl rfl rfl rfl rfl ⟨rfl, rfl, rfl, rfl, rfl⟩ rfl rfl rfl rfl rfl (by kernel_rfl) Tryd.func5 (by kernel_rfl)
    (of_decide_eq_true (by kernel_rfl)) (by unfold Func.isWrapper; first | (rw [if_pos (by decide +kernel)]; kernel_rfl) | (rw [if_neg (by decide +kernel)]; exact ⟨rfl, rfl⟩))
    (fun os started H enc _ => lifted os started H enc)

/-- ████ THE STATEMENT: THE TIED CARD ████ -/
theorem proved : Rows.MailidThreadsCardSaid :=
  Claim7.holds_tied_plain_at .later [] [.data, .pinned] true (true, "69b9849445b112d83c8040095cd3339032efc159d550e9870a60eabd1f348826") false
    over (fun _ h => by cases h) (by kernel_rfl) (fun _ h => by cases h) mailidThreads_row_tie rfl ⟨rfl, rfl⟩ (by kernel_rfl) rfl
    (fun f fn hf hfn => by
      obtain rfl : f = 5 := Option.some.inj ((show Tryd.prog.funcNamed "sheave/sheavelaw51.MailidThreads" = some 5 by kernel_rfl).symm.trans hf) |>.symm
      obtain rfl : fn = Tryd.f5 := (Option.some.inj (Tryd.func5.symm.trans hfn)).symm
      exact ⟨by kernel_rfl, fun j t ht => by
        rw [Tryd.params5] at ht
        have hm : t ∈ [35, 29, 3] := by simpa using Array.mem_of_getElem? ht
        have hall : ([35, 29, 3].all fun u => !Tryd.prog.wantsStandIn u) = true := by kernel_rfl
        exact (show Tryd.prog.wantsStandIn t = false by simpa using List.all_eq_true.1 hall t hm)⟩)
    (by kernel_rfl)
#print axioms proved
end Go.Proofs.YtcmiopkcgoanpaaDoor.mailidThreads
