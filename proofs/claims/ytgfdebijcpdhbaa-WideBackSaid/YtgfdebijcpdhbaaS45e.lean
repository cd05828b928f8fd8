/- The statement of layer 45 on back: all cases. -/
import Derived.Test.YtgfdebijcpdhbaaS45d
namespace Go.Proofs.Ytgfdebijcpdhbaa
open Go.RowKit
set_option maxHeartbeats 2000000
set_option maxRecDepth 100000 in
theorem wb_long (h0 h1 : Bool) (v1 : Value) (ts : List Int) (v2 : Value) (xs : List Int) (w : World) (r1 : Row w v1 (ints .i32 ts)) (r2 : Row w v2 (ints .u8 xs)) (hl : 300 < ts.length ∨ (ts.length ≤ 300 ∧ 600 < xs.length)) :
    Calls Try.prog 6 #[.agg #[.bool h0, .bool h1], v1, v2] w fun e w' => e = .returned (.bool true) ∧ Below w.heap.size w w' := by
  obtain ⟨a, b, off, cap, rfl, _⟩ := id r1.op
  obtain ⟨a2, b2, off2, cap2, rfl, _⟩ := id r2.op
  have hb := below_alloc w (.cells #[.bool h0, .bool h1] 44)
  have c0 : (w.alloc (.cells #[.bool h0, .bool h1] 44)).cell? ⟨w.heap.size, 0, none⟩ = some (.bool h0) := by rw [cell_of_row _ _ 0 _ _ (0, 0) (heap_alloc_new w _)]; rfl
  have c1 : (w.alloc (.cells #[.bool h0, .bool h1] 44)).cell? ⟨w.heap.size, 1, none⟩ = some (.bool h1) := by rw [cell_of_row _ _ 1 _ _ (0, 0) (heap_alloc_new w _)]; rfl
  have HB := Lib.hid hb
  clear hb r1 r2
  rcases hl with hl | ⟨hl1, hl2⟩ <;> rcases h0 with _ | _
  all_goals
    go_enter Try.func6, Try.ntmps6
    go_wp2_with fail
    go_quiet (fail)
    go_wp2_with fail
    refine (alive45_any _).mono ?_
    rintro e w10 ⟨rfl, hb10⟩
    have hb := below_trans (below_drewN HB.out _) hb10
    go_wp2
    go_ret
    exact ⟨rfl, hb⟩
theorem WideBack_walk (h0 h1 : Bool) (v1 : Value) (ts : List Int) (v2 : Value) (xs : List Int) (w : World) (r1 : Row w v1 (ints .i32 ts)) (g1 : WF .i32 ts) (r2 : Row w v2 (ints .u8 xs)) (g2 : WF .u8 xs) :
    Calls Try.prog 6 #[.agg #[.bool h0, .bool h1], v1, v2] w fun e w' => e = .returned (.bool true) ∧ Below w.heap.size w w' := by
  have hg1 : R32 ts := fun x hx => wf_i32 (g1 x hx)
  have hg2 := g2.u8
  rcases Nat.lt_or_ge 300 ts.length with hl | hl
  · exact wb_long h0 h1 v1 ts v2 xs w r1 r2 (.inl hl)
  · rcases Nat.lt_or_ge 600 xs.length with hx | hx
    · exact wb_long h0 h1 v1 ts v2 xs w r1 r2 (.inr ⟨hl, hx⟩)
    · cases h0 <;> cases h1
      · rcases Decidable.em (readE 4 false xs = 0) with hf | hf
        · cases hs : allSc ts with
          | false => exact wb4l_ns1 v1 ts v2 xs w r1 hg1 r2 hg2 hl hx hs hf
          | true => exact wb4l_ok1 v1 ts v2 xs w r1 hg1 r2 hg2 hl hx hs (fun h9 => by exact absurd h9.1 (by decide)) hf
        · cases hs : allSc ts with
          | false => exact wb4l_ns0 v1 ts v2 xs w r1 hg1 r2 hg2 hl hx hs hf
          | true => exact wb4l_ok0 v1 ts v2 xs w r1 hg1 r2 hg2 hl hx hs (fun h9 => by exact absurd h9.1 (by decide)) hf
      · rcases Decidable.em (readE 4 true xs = 0) with hf | hf
        · cases hs : allSc ts with
          | false => exact wb4b_ns1 v1 ts v2 xs w r1 hg1 r2 hg2 hl hx hs hf
          | true => exact wb4b_ok1 v1 ts v2 xs w r1 hg1 r2 hg2 hl hx hs (fun h9 => by cases h9.2.1) hf
        · cases hs : allSc ts with
          | false => exact wb4b_ns0 v1 ts v2 xs w r1 hg1 r2 hg2 hl hx hs hf
          | true => exact wb4b_ok0 v1 ts v2 xs w r1 hg1 r2 hg2 hl hx hs (fun h9 => by cases h9.2.1) hf
      · rcases Decidable.em (readE 2 false xs = 0) with hf | hf
        · cases hs : allSc ts with
          | false => exact wb2l_ns1 v1 ts v2 xs w r1 hg1 r2 hg2 hl hx hs hf
          | true =>
            cases ts with
            | nil => exact wb2l_okn1 v1 v2 xs w r1 hg1 r2 hg2 hl hx hs hf
            | cons c r =>
              rcases Decidable.em (c = 0) with rfl | hc
              · exact wb2l_odd1 v1 r v2 xs w r1 hg1 r2 hg2 hl hx hs hf
              · exact wb2l_okc1 v1 c r v2 xs w r1 hg1 r2 hg2 hl hx hs hc hf
        · cases hs : allSc ts with
          | false => exact wb2l_ns0 v1 ts v2 xs w r1 hg1 r2 hg2 hl hx hs hf
          | true =>
            cases ts with
            | nil => exact wb2l_okn0 v1 v2 xs w r1 hg1 r2 hg2 hl hx hs hf
            | cons c r =>
              rcases Decidable.em (c = 0) with rfl | hc
              · exact wb2l_odd0 v1 r v2 xs w r1 hg1 r2 hg2 hl hx hs hf
              · exact wb2l_okc0 v1 c r v2 xs w r1 hg1 r2 hg2 hl hx hs hc hf
      · rcases Decidable.em (readE 2 true xs = 0) with hf | hf
        · cases hs : allSc ts with
          | false => exact wb2b_ns1 v1 ts v2 xs w r1 hg1 r2 hg2 hl hx hs hf
          | true => exact wb2b_ok1 v1 ts v2 xs w r1 hg1 r2 hg2 hl hx hs (fun h9 => by cases h9.2.1) hf
        · cases hs : allSc ts with
          | false => exact wb2b_ns0 v1 ts v2 xs w r1 hg1 r2 hg2 hl hx hs hf
          | true => exact wb2b_ok0 v1 ts v2 xs w r1 hg1 r2 hg2 hl hx hs (fun h9 => by cases h9.2.1) hf
end Go.Proofs.Ytgfdebijcpdhbaa
