/- Walks: wide texts: reading, by the program. -/
import Derived.Test.YtgfdebijcpdhbaaW45j
namespace Go.Proofs.Ytgfdebijcpdhbaa
open Go.RowKit
set_option maxHeartbeats 1000000
theorem big1_rng {wd : Int} {big : Bool} {xs : List Int} (h : Rg 0 256 xs) : Rg 0 256 (big1 wd big xs) := by
  unfold big1; split
  · exact h
  · exact sw_rng h
theorem big1_len (wd : Int) (big : Bool) (xs : List Int) : (big1 wd big xs).length = xs.length := by
  unfold big1; split
  · rfl
  · exact sw_len wd xs
theorem numW_rng {wd : Int} {xs : List Int} (h : Rg 0 256 xs) : Rg 0 4294967296 (numW wd xs) ∧ (wd = 2 → Rg 0 65536 (numW wd xs)) := by
  refine ⟨?_, fun h2 => ?_⟩
  · unfold numW; split
    · exact num4_rng xs h
    · intro x hx; have := num2_rng xs h x hx; omega
  · unfold numW; rw [if_neg (by omega)]; exact num2_rng xs h
theorem numW_len (wd : Int) (xs : List Int) : (numW wd xs).length ≤ xs.length := by
  unfold numW; split
  · rw [num4_len]; omega
  · rw [num2_len]; omega
theorem text_any (wd : Int) (hw : wd = 2 ∨ wd = 4) (v : Value) (L : List Int) (w : World) (h : Row w v (ints .u32 L)) (hg : Rg 0 4294967296 L ∧ (wd = 2 → Rg 0 65536 L)) (hl : L.length ≤ 100000) :
    Calls Try.prog 44 #[.int .i64 wd, v] w fun e w' => TxP wd w L e w' := by
  rcases hw with rfl | rfl
  · exact text2_any v L w h (hg.2 rfl) hl
  · exact text4_any v L w h hg.1 hl
theorem uread_len : ∀ (k : Nat) (xs : List Int), xs.length ≤ k → (uread xs).length ≤ xs.length
  | _, [], _ => by rw [uread_nil]; simp
  | 0, x :: r, h => by simp at h
  | k + 1, x :: r, h => by
    have hn := uone_n x r
    rw [uread_cons, List.length_cons]
    have ih := uread_len k ((x :: r).drop (uone x r).2.1.toNat) (by rw [List.length_drop]; simp only [List.length_cons] at h ⊢; omega)
    rw [List.length_drop] at ih
    simp only [List.length_cons] at ih ⊢
    omega
theorem textW_len (wd : Int) (L : List Int) : (textW wd L).length ≤ L.length := by
  unfold textW; split
  · rw [List.length_map]; exact Nat.le_refl _
  · rw [List.length_map]; exact uread_len _ _ (Nat.le_refl _)
theorem overW_len {wd : Int} {xs ys : List Int} (h : xs.length = ys.length) : overW wd xs = overW wd ys := by rw [overW, overW, h]
def RdP (w : World) (T : List Int) (er : Int) (e : Ending) (w' : World) : Prop := ∃ t, e = .returned (.tuple #[t, .int .i64 er]) ∧ Own w.heap.size 21 w' t (ints .i32 T) ∧ Below w.heap.size w w'
theorem RdP.mk {w w' : World} {T D : List Int} {t : Value} {er er' : Int} (h1 : T = D) (h2 : er = er') (h3 : Own w.heap.size 21 w' t (ints .i32 D)) (h4 : Below w.heap.size w w') : RdP w T er (.returned (.tuple #[t, .int .i64 er'])) w' := ⟨t, by rw [h2], by rw [h1]; exact h3, h4⟩
set_option maxRecDepth 100000 in
theorem wread_any (wd : Int) (big : Bool) (v : Value) (xs : List Int) (w : World) (h : Row w v (ints .u8 xs)) (hg : Rg 0 256 xs) (hl : xs.length ≤ 10000) :
    Calls Try.prog 32 #[.int .i64 wd, .bool big, v] w fun e w' => RdP w (readT wd big xs) (readE wd big xs) e w' := by
  have hb := Below.refl w.heap.size w
  obtain ⟨a, b, off, cp, rfl, _⟩ := id h.op
  rcases Decidable.em (wd = 2 ∨ wd = 4) with hw | hw
  · have hwb : (wd == 2 || wd == 4) = true := by rcases hw with rfl | rfl <;> rfl
    have hI := fun w => is_two wd w
    rw [hwb] at hI
    have hT := take_any wd big hw _ xs w h hg (by omega)
    have hXl := numW_len wd (big1 wd big xs)
    rw [big1_len] at hXl
    have hX := fun v w' h' => text_any wd hw v (numW wd (big1 wd big xs)) w' h' (numW_rng (big1_rng hg)) (by omega)
    have hov := overW_len (wd := wd) (big1_len wd big xs)
    have hTl := textW_len wd (numW wd (big1 wd big xs))
    have eT : readT wd big xs = if overW wd xs then textW wd (numW wd (big1 wd big xs)) ++ [65533] else textW wd (numW wd (big1 wd big xs)) := if_pos hw
    have eE : readE wd big xs = if overW wd xs then 4 else if rightW wd (numW wd (big1 wd big xs)) then 0 else 3 := if_pos hw
    rw [← hov] at eT eE
    generalize big1 wd big xs = ys at *
    unfold TkP at hT
    unfold TxP at hX
    generalize numW wd ys = L at *
    have HTL : Hid ((textW wd L).length ≤ 10000) := by show _ ≤ _; omega
    generalize textW wd L = T at *
    generalize rightW wd L = r at *
    generalize overW wd ys = o at *
    generalize readT wd big xs = RT at *
    generalize readE wd big xs = RE at *
    have HI := Lib.hid hI; have HT := Lib.hid hT; have HX := Lib.hid hX
    clear hI hT hX hXl hov hTl hwb hw
    rcases o with _ | _
    · rcases r with _ | _
      all_goals
        have ET := Lib.hid eT; have EE := Lib.hid eE
        clear eT eE
        go_enter Try.func32, Try.ntmps32
        go_wp2_with (first | (go_at_call 22; refine (HI.out _).mono ?_; rintro e w1 ⟨rfl, hw1⟩; obtain rfl := hw1.symm) | (go_at_call 43; refine (HT.out).mono ?_; rintro e w2 ⟨t2, rfl, ho2, hb2⟩) | (go_at_call 44; refine (HX.out _ _ ho2.row).mono ?_; rintro e w3 ⟨t3, rfl, ho3, hb3⟩))
        go_ret2
        exact RdP.mk ET.out EE.out (ho3.mono hb2.size) (below_trans hb2 hb3)
    · have ET := Lib.hid eT; have EE := Lib.hid eE
      clear eT eE
      go_enter Try.func32, Try.ntmps32
      go_wp2_with (first | (go_at_call 22; refine (HI.out _).mono ?_; rintro e w1 ⟨rfl, hw1⟩; obtain rfl := hw1.symm) | (go_at_call 43; refine (HT.out).mono ?_; rintro e w2 ⟨t2, rfl, ho2, hb2⟩) | (go_at_call 44; refine (HX.out _ _ ho2.row).mono ?_; rintro e w3 ⟨t3, rfl, ho3, hb3⟩; have ho4 := ho3.mono hb2.size; have hb4 := below_trans hb2 hb3; have hz4 := hb4.size) | (at_builtin; refine wpList_app slT_i32 _ _ _ rfl rfl rfl rfl (ho4.alloc _) (Row.ilit [65533] [_] rfl (by simp)) (by have := HTL.out; rw [ints_length, ints_length]; simp only [List.length_cons, List.length_nil]; omega) (by simp; omega) ?_; intro t5 w5 hown5 hg5))
      have hb5 := below_app hb4 (below_alloc _ _) (ho4.alloc _) hg5
      rw [← ints_append] at hown5
      go_ret2
      exact RdP.mk ET.out EE.out hown5 hb5
  · have hwb : (wd == 2 || wd == 4) = false := by
      rw [beq_false_of_ne (by omega), beq_false_of_ne (by omega)]; rfl
    have hI := fun w => is_two wd w
    rw [hwb] at hI
    have HI := Lib.hid hI
    have ET : Hid (readT wd big xs = []) := if_neg hw
    have EE : Hid (readE wd big xs = 1) := if_neg hw
    clear hI hwb hw
    go_enter Try.func32, Try.ntmps32
    go_wp2_with (first | (go_at_call 22; refine (HI.out _).mono ?_; rintro e w1 ⟨rfl, hw1⟩; obtain rfl := hw1.symm))
    go_ret2
    exact RdP.mk ET.out EE.out (Own.nil _ _ _) hb
theorem wRead_any2 (wd : Int) (big : Bool) (v : Value) (xs : List Int) (w : World) (h : Row w v (ints .u8 xs)) (hg : Rg 0 256 xs) (hl : xs.length ≤ 10000) :
    Calls Try.prog 15 #[.int .i64 wd, .bool big, v] w fun e w' => ∃ t, e = .returned t ∧ Own w.heap.size 21 w' t (ints .i32 (readT wd big xs)) ∧ Below w.heap.size w w' := by
  have hr := wread_any wd big v xs w h hg hl
  generalize readT wd big xs = T at *
  generalize readE wd big xs = er at *
  unfold RdP at hr
  have HR := Lib.hid hr; clear hr
  go_enter Try.func15, Try.ntmps15
  go_wp2_with (go_at_call 32; refine (HR.out).mono ?_; rintro e w1 ⟨t1, rfl, ho1, hb1⟩)
  go_ret
  exact ⟨_, rfl, ho1, hb1⟩
def strictT (wd : Int) (big : Bool) (xs : List Int) : List Int := if readE wd big xs = 0 then readT wd big xs else []
theorem wStrict_any (wd : Int) (big : Bool) (v : Value) (xs : List Int) (w : World) (h : Row w v (ints .u8 xs)) (hg : Rg 0 256 xs) (hl : xs.length ≤ 10000) :
    Calls Try.prog 13 #[.int .i64 wd, .bool big, v] w fun e w' => RdP w (strictT wd big xs) (readE wd big xs) e w' := by
  have hr := wread_any wd big v xs w h hg hl
  have hst : strictT wd big xs = if readE wd big xs = 0 then readT wd big xs else [] := rfl
  generalize readT wd big xs = T at *
  generalize readE wd big xs = er at *
  generalize strictT wd big xs = ST at *
  unfold RdP at hr
  have HR := Lib.hid hr; clear hr
  rcases Decidable.em (er = 0) with rfl | h0
  · have HST : Hid (ST = T) := hst
    clear hst
    go_enter Try.func13, Try.ntmps13
    go_wp2_with (go_at_call 32; refine (HR.out).mono ?_; rintro e w1 ⟨t1, rfl, ho1, hb1⟩)
    go_ret2
    exact RdP.mk HST.out rfl ho1 hb1
  · have HST : Hid (ST = []) := by show _ = _; rw [hst, if_neg h0]
    have hne : (er != 0) = true := by rw [bne, beq_false_of_ne h0]; rfl
    clear hst h0
    go_enter Try.func13, Try.ntmps13
    go_wp2_with (go_at_call 32; refine (HR.out).mono ?_; rintro e w1 ⟨t1, rfl, ho1, hb1⟩)
    go_ret2
    exact RdP.mk HST.out rfl (Own.nil _ _ _) hb1
end Go.Proofs.Ytgfdebijcpdhbaa
