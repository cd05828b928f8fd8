/- Walks: UTF-8, texts: going through the signs by a closure. -/
import Derived.Test.YthjenihaogihpaaW05
import Derived.Test.YthjenihaogihpaaP05b
namespace Go.Proofs.Ythjenihaogihpaa
open Go.RowKit
set_option maxHeartbeats 1000000

/-- Going through the signs: whatever the closure keeps. w0: the world ahead of the variable that the closure captures. -/
theorem each_any (f : Nat) (hf : Fnc f) (cap : Array Value) (w0 : World) (I : List (Int × Int) → World → Prop)
    (hB : ∀ ps w', I ps w' → Below w0.heap.size w0 w') (hS : ∀ ps w' w'', I ps w' → Below w'.heap.size w' w'' → I ps w'')
    (hI : ∀ ps c e w', I ps w' → -2147483648 ≤ c → c ≤ 2147483647 → ps.length < 1000000 → Calls Try.prog f (#[.int .i32 c, .int .i64 e] ++ cap) w' fun en w'' => en = .returned (.tuple #[]) ∧ I (ps ++ [(c, e)]) w'')
    (v : Value) (xs : List Int) (w : World) (h : Row w0 v (ints .u8 xs)) (hg : Rg 0 256 xs) (hl : xs.length ≤ 1000000) (h0 : I [] w) :
    Calls Try.prog 41 #[v, .func (Fn.func f) #[] cap] w fun e w' => e = .returned (.tuple #[]) ∧ I (eread xs) w' := by
  have HB := Lib.hid hB; have HS := Lib.hid hS; have HI := Lib.hid hI; clear hB hS hI
  unfold Fnc at hf
  go_enter Try.func41, Try.ntmps41
  go_wp2
  go_loopw [0] (fun u wr => ∃ ps rest, Row w0 u (ints .u8 rest) ∧ Rg 0 256 rest ∧ Hid (eread xs = ps ++ eread rest) ∧ Hid (ps.length + rest.length ≤ xs.length) ∧ I ps wr) (fun u _ => lenOf u)
  case atStart => exact ⟨[], xs, h, hg, rfl, (by simp : ([] : List (Int × Int)).length + xs.length ≤ xs.length), h0⟩
  case round =>
    clear h hg h0
    obtain ⟨ps, rest, hrow, hgr, HP, HL, hinv⟩ := hrel
    cases rest with
    | nil =>
      obtain ⟨a, b, off, cp, rfl, HC⟩ := hrow.op
      go_wp2
      go_end0
      rw [eread_nil, List.append_nil] at HP
      exact ⟨rfl, by rw [HP.out]; exact hinv⟩
    | cons x r =>
      obtain ⟨a, b, off, cp, rfl, _⟩ := id hrow.op
      have hT := fun v w' h' => oTake_any v (x :: r) w' h' hgr (by have := HL.out; omega)
      have hcons := eread_cons x r
      have hpos := takeR_pos x r
      have hle := (takeR_n (x :: r)).2.1
      have h32 := takeR_32 hgr
      generalize takeR (x :: r) = tk at *
      obtain ⟨c, n, e⟩ := tk
      simp only [List.length_cons] at hT hcons hpos hle h32
      have HT := Lib.hid hT; have HU := Lib.hid hcons
      have hle' : n ≤ (r.length : Int) + 1 := by omega
      clear hT hcons hle
      have hb := HB.out _ _ hinv
      have HINV := Lib.hid hinv; clear hinv
      go_wp2_with fail
      refine (HT.out _ _ (hrow.below hb)).mono ?_
      rintro e' w1 ⟨rfl, hb1⟩
      have HINV1 := Lib.hid (HS.out _ _ _ HINV.out hb1)
      go_wp2_with fail
      refine (HI.out ps c e w1 HINV1.out h32.1 h32.2 (by have := HL.out; simp at this; omega)).mono ?_
      rintro e' w2 ⟨rfl, hinv2⟩
      have hb2 := HB.out _ _ hinv2
      have HINV2 := Lib.hid hinv2; clear hinv2
      go_wp2_with (refine wpList_slL slT_u8 _ _ rfl rfl rfl rfl (hrow.below hb2) (by omega) (by simp [ints]; omega) ?_; intro u2 hu2)
      have r2 := hu2 _ hrow
      go_roundw
      case rel =>
        refine ⟨ps ++ [(c, e)], (x :: r).drop n.toNat, by rw [← ints_drop]; exact r2, hgr.drop _, ?_, ?_, HINV2.out⟩
        · show _ = _
          rw [HP.out, HU.out, List.append_assoc]; rfl
        · have := HL.out
          show _ ≤ _
          simp only [List.length_append, List.length_drop, List.length_cons, List.length_nil] at this ⊢; omega
      case measure => rw [r2.len]; simp [lenOf, ints]; omega

/-- A captured list of signs: what the cell at block b holds. -/
def TI (w0 : World) (b : Nat) (ys : List Int) (w' : World) : Prop :=
  ∃ tv, w'.heap[b]? = some (.cells #[tv] 24 (0, 0)) ∧ Own (b + 1) 21 w' tv (ints .i32 ys) ∧ Below w0.heap.size w0 w' ∧ w0.heap.size ≤ b
theorem TI.stay {w0 : World} {b : Nat} {ys : List Int} {w' w'' : World} (h : TI w0 b ys w') (hb : Below w'.heap.size w' w'') : TI w0 b ys w'' := by
  obtain ⟨tv, h1, h2, h3, h4⟩ := h
  exact ⟨tv, by rw [hb.block b (lt_of_block h1)]; exact h1, h2.below hb, below_trans h3 hb, h4⟩
/-- A captured number. -/
def NI (w0 : World) (b : Nat) (T : TypeId) (n : Int) (w' : World) : Prop :=
  w'.heap[b]? = some (.cells #[.int .i64 n] T (0, 0)) ∧ Below w0.heap.size w0 w' ∧ w0.heap.size ≤ b
theorem NI.stay {w0 : World} {b : Nat} {T : TypeId} {n : Int} {w' w'' : World} (h : NI w0 b T n w') (hb : Below w'.heap.size w' w'') : NI w0 b T n w'' := by
  obtain ⟨h1, h3, h4⟩ := h
  exact ⟨by rw [hb.block b (lt_of_block h1)]; exact h1, below_trans h3 hb, h4⟩
theorem NI.set {w0 : World} {b : Nat} {T : TypeId} {n m : Int} {w' : World} (h : NI w0 b T n w') : NI w0 b T m (w'.setCell ⟨b, 0, none⟩ (.int .i64 m)) := by
  obtain ⟨h1, h3, h4⟩ := h
  exact ⟨one_setCell h1, h3.setCell h4 _, h4⟩

/-- A step of an append to a captured list. -/
theorem TI.step {w0 : World} {b : Nat} {ys : List Int} {c : Int} {w w2 : World} {tv t2 : Value} (h1 : w.heap[b]? = some (.cells #[tv] 24 (0, 0))) (hown : Own (b + 1) 21 w tv (ints .i32 ys)) (hb : Below w0.heap.size w0 w) (h4 : w0.heap.size ≤ b)
    (o : Obj) (hown2 : Own (b + 1) 21 w2 t2 (ints .i32 ys ++ ints .i32 [c])) (hg2 : (w.alloc o).grownBy w2 tv.ownBlock) :
    w2.cell? ⟨b, 0, none⟩ = some tv ∧ w2.frozen? ⟨b, 0, none⟩ = false ∧ TI w0 b (ys ++ [c]) (w2.setCell ⟨b, 0, none⟩ t2) := by
  have hlt := lt_of_block h1
  have hne : some b ≠ tv.ownBlock := by
    intro he
    have := (hown.1.lt b he.symm).1
    omega
  have h2 : w2.heap[b]? = some (.cells #[tv] 24 (0, 0)) := by
    rw [hg2.block b (by simp; omega) hne, Below.heap_alloc w o b hlt]; exact h1
  have hbw : Below w0.heap.size w0 w2 := below_own (hb.alloc hb.size o) (hown.alloc o) hg2 (by have := hb.size; simp; omega) (by omega)
  refine ⟨cell_of_one h2, free_of_one h2, t2, one_setCell h2, ⟨ownsRow_setCell_below (by rw [ints_append]; exact hown2.1) (Nat.lt_succ_self b) t2, by rw [ints_append]; exact hown2.2⟩, hbw.setCell h4 _, h4⟩
theorem read1_any (w0 : World) (b : Nat) (ys : List Int) (c e : Int) (w : World) (h : TI w0 b ys w) (hl : ys.length ≤ 1000000) :
    Calls Try.prog 43 #[.int .i32 c, .int .i64 e, .pointer (some ⟨b, 0, none⟩)] w fun en w' => en = .returned (.tuple #[]) ∧ TI w0 b (ys ++ [rd (c, e)]) w' := by
  obtain ⟨tv, h1, hown, hb, h4⟩ := h
  have hc := cell_of_one h1
  have hfz := free_of_one h1
  have hlt := lt_of_block h1
  have H1 := Lib.hid h1
  clear h1
  by_cases he : e = 0
  · rw [show rd (c, e) = c by simp [rd, he]]
    have he' : (e != 0) = false := by simpa using he
    clear he
    go_enter Try.func43, Try.ntmps43
    go_wp2_with (at_builtin; refine wpList_app slT_i32 _ _ _ rfl rfl rfl rfl (hown.alloc _) (Row.ilit [_] [_] rfl (by simp)) (by simp [ints]; omega) (by simp; omega) ?_; intro t2 w2 hown2 hg2; obtain ⟨hc2, hf2, HT⟩ := TI.step H1.out hown hb h4 _ hown2 hg2; replace HT := Lib.hid HT; clear hc hfz; obtain ⟨a9, b9, o9, c9, rfl, _⟩ := hown2.row)
    go_end0
    exact ⟨rfl, by have h := HT.out; rw [List.length_append] at h; exact h⟩
  · rw [show rd (c, e) = 65533 by simp [rd, he]]
    have he' : (e != 0) = true := by simpa using he
    clear he
    go_enter Try.func43, Try.ntmps43
    go_wp2_with (at_builtin; refine wpList_app slT_i32 _ _ _ rfl rfl rfl rfl (hown.alloc _) (Row.ilit [_] [_] rfl (by simp)) (by simp [ints]; omega) (by simp; omega) ?_; intro t2 w2 hown2 hg2; obtain ⟨hc2, hf2, HT⟩ := TI.step H1.out hown hb h4 _ hown2 hg2; replace HT := Lib.hid HT; clear hc hfz; obtain ⟨a9, b9, o9, c9, rfl, _⟩ := hown2.row)
    go_end0
    exact ⟨rfl, by have h := HT.out; rw [List.length_append] at h; exact h⟩
theorem count1_any (w0 : World) (b : Nat) (n : Int) (c e : Int) (w : World) (h : NI w0 b 3 n w) (hn : 0 ≤ n) (hn' : n ≤ 1000000) :
    Calls Try.prog 44 #[.int .i32 c, .int .i64 e, .pointer (some ⟨b, 0, none⟩)] w fun en w' => en = .returned (.tuple #[]) ∧ NI w0 b 3 (n + 1) w' := by
  have hc := cell_of_one h.1
  have hfz := free_of_one h.1
  go_enter Try.func44, Try.ntmps44
  go_wp2
  go_end0
  exact ⟨rfl, h.set⟩
theorem broken1_any (w0 : World) (b : Nat) (n : Int) (c e : Int) (w : World) (h : NI w0 b 3 n w) (hn : 0 ≤ n) (hn' : n ≤ 1000000) :
    Calls Try.prog 45 #[.int .i32 c, .int .i64 e, .pointer (some ⟨b, 0, none⟩)] w fun en w' => en = .returned (.tuple #[]) ∧ NI w0 b 3 (n + if e = 0 then 0 else 1) w' := by
  have hc := cell_of_one h.1
  have hfz := free_of_one h.1
  by_cases he : e = 0
  · rw [if_pos he, Int.add_zero]
    have he' : (e != 0) = false := by simpa using he
    clear he
    go_enter Try.func45, Try.ntmps45
    go_wp2
    go_end0
    exact ⟨rfl, h⟩
  · rw [if_neg he]
    have he' : (e != 0) = true := by simpa using he
    clear he
    go_enter Try.func45, Try.ntmps45
    go_wp2
    go_end0
    exact ⟨rfl, h.set⟩
theorem strict1_any (w0 : World) (b : Nat) (q : Int) (c e : Int) (w : World) (h : NI w0 b 27 q w) :
    Calls Try.prog 42 #[.int .i32 c, .int .i64 e, .pointer (some ⟨b, 0, none⟩)] w fun en w' => en = .returned (.tuple #[]) ∧ NI w0 b 27 (if q = 0 then e else q) w' := by
  have hc := cell_of_one h.1
  have hfz := free_of_one h.1
  by_cases hq : q = 0
  · rw [if_pos hq]
    have hq' : (q == 0) = true := by simpa using hq
    clear hq
    go_enter Try.func42, Try.ntmps42
    go_wp2
    go_end0
    exact ⟨rfl, h.set⟩
  · rw [if_neg hq]
    have hq' : (q == 0) = false := by simpa using hq
    clear hq
    go_enter Try.func42, Try.ntmps42
    go_wp2
    go_end0
    exact ⟨rfl, h⟩

theorem read1_fnc : Fnc 43 := fun args w => by kernel_rfl
theorem count1_fnc : Fnc 44 := fun args w => by kernel_rfl
theorem broken1_fnc : Fnc 45 := fun args w => by kernel_rfl
theorem strict1_fnc : Fnc 42 := fun args w => by kernel_rfl
theorem TI.new (w : World) : TI w w.heap.size [] (w.alloc (.cells #[.slice none 0 0] 24)) :=
  ⟨_, heap_alloc_new w _, Own.nil _ _ _, below_alloc _ _, Nat.le_refl _⟩
theorem NI.new (w : World) (T : TypeId) (n : Int) : NI w w.heap.size T n (w.alloc (.cells #[.int .i64 n] T)) :=
  ⟨heap_alloc_new w _, below_alloc _ _, Nat.le_refl _⟩
theorem eRead_any (v : Value) (xs : List Int) (w : World) (h : Row w v (ints .u8 xs)) (hg : Rg 0 256 xs) (hl : xs.length ≤ 1000000) :
    Calls Try.prog 15 #[v] w fun e w' => ∃ t, e = .returned t ∧ Own w.heap.size 21 w' t (ints .i32 (etext xs)) ∧ Below w.heap.size w w' := by
  have hmf : ∀ (fn : Fn) (first cap : Array Value) (w : World), (Instr.makeFunc fn first cap).run Try.prog w = .ok (.func fn first cap) w := fun _ _ _ _ => rfl
  go_enter Try.func15, Try.ntmps15
  go_wp2_with fail
  refine (each_any _ read1_fnc #[.pointer (some ⟨w.heap.size, 0, none⟩)] w (fun ps w' => TI w w.heap.size (ps.map rd) w') (fun ps w' ⟨_, _, _, h, _⟩ => h) ?_ ?_ v xs _ h hg hl (TI.new w)).mono ?_
  · intro ps w' w'' h hb; exact h.stay hb
  · intro ps c e w' h h1 h2 h3
    refine (read1_any w w.heap.size (ps.map rd) c e w' h (by simp; omega)).mono ?_
    rintro en w'' ⟨rfl, h⟩
    exact ⟨rfl, by rw [List.map_append]; exact h⟩
  · rintro e w1 ⟨rfl, tv, h1, hown, hb, _⟩
    have hc := cell_of_one h1
    clear h1
    go_wp2
    go_ret
    exact ⟨_, rfl, hown.mono (by omega), hb⟩
theorem eCount_any (v : Value) (xs : List Int) (w : World) (h : Row w v (ints .u8 xs)) (hg : Rg 0 256 xs) (hl : xs.length ≤ 1000000) :
    Calls Try.prog 16 #[v] w fun e w' => e = .returned (.int .i64 ((eread xs).length : Nat)) ∧ Below w.heap.size w w' := by
  have hmf : ∀ (fn : Fn) (first cap : Array Value) (w : World), (Instr.makeFunc fn first cap).run Try.prog w = .ok (.func fn first cap) w := fun _ _ _ _ => rfl
  go_enter Try.func16, Try.ntmps16
  go_wp2_with fail
  refine (each_any _ count1_fnc #[.pointer (some ⟨w.heap.size, 0, none⟩)] w (fun ps w' => NI w w.heap.size 3 (ps.length : Nat) w') (fun ps w' h => h.2.1) ?_ ?_ v xs _ h hg hl (NI.new w _ _)).mono ?_
  · intro ps w' w'' h hb; exact h.stay hb
  · intro ps c e w' h h1 h2 h3
    refine (count1_any w w.heap.size (ps.length : Nat) c e w' h (by omega) (by omega)).mono ?_
    rintro en w'' ⟨rfl, h⟩
    exact ⟨rfl, by rw [List.length_append]; exact h⟩
  · rintro e w1 ⟨rfl, h1, hb, _⟩
    have hc := cell_of_one h1
    clear h1
    go_wp2
    go_ret
    exact ⟨rfl, hb⟩
theorem ebad_snoc (ps : List (Int × Int)) (c e : Int) : (((ps ++ [(c, e)]).filter bad).length : Int) = (ps.filter bad).length + if e = 0 then 0 else 1 := by
  rw [List.filter_append]
  by_cases he : e = 0
  · subst he
    have hb : List.filter bad [(c, 0)] = [] := rfl
    rw [hb]; simp
  · have hb : bad (c, e) = true := by simpa [bad] using he
    rw [List.filter_cons, if_pos hb]; simp [he]
theorem eBroken_any (v : Value) (xs : List Int) (w : World) (h : Row w v (ints .u8 xs)) (hg : Rg 0 256 xs) (hl : xs.length ≤ 1000000) :
    Calls Try.prog 17 #[v] w fun e w' => e = .returned (.int .i64 (ebad xs : Nat)) ∧ Below w.heap.size w w' := by
  have hmf : ∀ (fn : Fn) (first cap : Array Value) (w : World), (Instr.makeFunc fn first cap).run Try.prog w = .ok (.func fn first cap) w := fun _ _ _ _ => rfl
  go_enter Try.func17, Try.ntmps17
  go_wp2_with fail
  refine (each_any _ broken1_fnc #[.pointer (some ⟨w.heap.size, 0, none⟩)] w (fun ps w' => NI w w.heap.size 3 ((ps.filter bad).length : Nat) w') (fun ps w' h => h.2.1) ?_ ?_ v xs _ h hg hl (NI.new w _ _)).mono ?_
  · intro ps w' w'' h hb; exact h.stay hb
  · intro ps c e w' h h1 h2 h3
    have hfl : (ps.filter bad).length ≤ ps.length := List.length_filter_le _ _
    refine (broken1_any w w.heap.size ((ps.filter bad).length : Nat) c e w' h (by omega) (by omega)).mono ?_
    rintro en w'' ⟨rfl, h⟩
    exact ⟨rfl, by rw [ebad_snoc]; exact h⟩
  · rintro e w1 ⟨rfl, h1, hb, _⟩
    have hc := cell_of_one h1
    clear h1
    go_wp2
    go_ret
    exact ⟨rfl, hb⟩
theorem eRight_any (v : Value) (xs : List Int) (w : World) (h : Row w v (ints .u8 xs)) (hg : Rg 0 256 xs) (hl : xs.length ≤ 1000000) :
    Calls Try.prog 18 #[v] w fun e w' => e = .returned (.bool (((ebad xs : Nat) : Int) == 0)) ∧ Below w.heap.size w w' := by
  have hB := fun w' h' => eBroken_any v xs w' h' hg hl
  generalize ((ebad xs : Nat) : Int) = q at *
  have HB := Lib.hid hB; clear hB
  go_enter Try.func18, Try.ntmps18
  go_wp2_with fail
  refine (HB.out _ h).mono ?_
  rintro e w1 ⟨rfl, hb⟩
  go_wp2
  go_ret
  exact ⟨rfl, hb⟩
theorem eStrict_any (v : Value) (xs : List Int) (w : World) (h : Row w v (ints .u8 xs)) (hg : Rg 0 256 xs) (hl : xs.length ≤ 1000000) :
    Calls Try.prog 13 #[v] w fun e w' => ∃ t, e = .returned (.tuple #[t, .int .i64 (eerr xs)]) ∧ Own w.heap.size 21 w' t (ints .i32 (strictL (eerr xs) (etext xs))) ∧ Below w.heap.size w w' := by
  have hmf : ∀ (fn : Fn) (first cap : Array Value) (w : World), (Instr.makeFunc fn first cap).run Try.prog w = .ok (.func fn first cap) w := fun _ _ _ _ => rfl
  have hR := fun w' h' => eRead_any v xs w' h' hg hl
  obtain ⟨q, hq⟩ : ∃ q, eerr xs = q := ⟨_, rfl⟩
  have HQ := Lib.hid hq
  rw [hq]
  have HR := Lib.hid hR; clear hR hq
  by_cases h0 : q = 0
  · subst h0
    go_enter Try.func13, Try.ntmps13
    go_wp2_with fail
    refine (each_any _ strict1_fnc #[.pointer (some ⟨w.heap.size, 0, none⟩)] w (fun ps w' => NI w w.heap.size 27 (ferr (ps.map Prod.snd)) w') (fun ps w' h => h.2.1) ?_ ?_ v xs _ h hg hl (NI.new w _ _)).mono ?_
    · intro ps w' w'' h hb; exact h.stay hb
    · intro ps c e w' h h1 h2 h3
      refine (strict1_any w w.heap.size _ c e w' h).mono ?_
      rintro en w'' ⟨rfl, h⟩
      exact ⟨rfl, by rw [List.map_append, List.map_cons, List.map_nil, ferr_snoc]; exact h⟩
    · rintro e w1 ⟨rfl, h1, hb, _⟩
      rw [show ferr ((eread xs).map Prod.snd) = 0 from HQ.out] at h1
      have hc := cell_of_one h1
      clear h1
      go_wp2_with fail
      refine (HR.out _ (h.below hb)).mono ?_
      rintro e w2 ⟨t, rfl, ho2, hb2⟩
      go_wp2
      go_ret2
      exact ⟨_, rfl, by rw [strictL, if_pos rfl]; exact ho2.mono hb.size, below_trans hb hb2⟩
  · have hne : (q != 0) = true := by simpa using h0
    have H0 := Lib.hid h0; clear h0
    go_enter Try.func13, Try.ntmps13
    go_wp2_with fail
    refine (each_any _ strict1_fnc #[.pointer (some ⟨w.heap.size, 0, none⟩)] w (fun ps w' => NI w w.heap.size 27 (ferr (ps.map Prod.snd)) w') (fun ps w' h => h.2.1) ?_ ?_ v xs _ h hg hl (NI.new w _ _)).mono ?_
    · intro ps w' w'' h hb; exact h.stay hb
    · intro ps c e w' h h1 h2 h3
      refine (strict1_any w w.heap.size _ c e w' h).mono ?_
      rintro en w'' ⟨rfl, h⟩
      exact ⟨rfl, by rw [List.map_append, List.map_cons, List.map_nil, ferr_snoc]; exact h⟩
    · rintro e w1 ⟨rfl, h1, hb, _⟩
      rw [show ferr ((eread xs).map Prod.snd) = q from HQ.out] at h1
      have hc := cell_of_one h1
      clear h1
      go_wp2_with fail
      go_quiet (fail)
      go_wp2
      go_ret2
      exact ⟨_, rfl, by rw [strictL, if_neg H0.out]; exact Own.nil _ _ _, below_drewN hb _⟩
theorem eMend_any (v : Value) (xs : List Int) (w : World) (h : Row w v (ints .u8 xs)) (hg : Rg 0 256 xs) (hl : xs.length ≤ 1000000) :
    Calls Try.prog 38 #[v] w fun e w' => ∃ t, e = .returned t ∧ Own w.heap.size 5 w' t (ints .u8 (elay (etext xs))) ∧ Below w.heap.size w w' := by
  have hsc := etext_sc hg
  have hlen := eread_len xs
  have hL := fun v w' h' => eLay_any v (etext xs) w' h' (scB_32 hsc) (by rw [etext_len]; omega)
  rw [show elayR (etext xs) = (elay (etext xs), 0) by rw [elayR, if_pos hsc]] at hL
  have HL := Lib.hid hL
  clear hL hsc hlen
  go_enter Try.func38, Try.ntmps38
  go_wp2_with fail
  refine (eRead_any _ _ _ h hg hl).mono ?_
  rintro e w1 ⟨t, rfl, ho, hb⟩
  go_wp2_with fail
  refine (HL.out _ _ ho.row).mono ?_
  rintro e w2 ⟨t2, rfl, ho2, hb2⟩
  go_wp2
  go_ret
  exact ⟨_, rfl, ho2.mono hb.size, below_trans hb hb2⟩
end Go.Proofs.Ythjenihaogihpaa
