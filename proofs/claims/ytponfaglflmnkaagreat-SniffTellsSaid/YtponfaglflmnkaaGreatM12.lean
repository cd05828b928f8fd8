/- Walks: scalar values. · Walks: the first that is no scalar value. · Plain laws: UTF-8, texts, there and back. · Plain: texts in charsets. (laid together by program out of single texts). -/
import Derived.Test.YtponfaglflmnkaaGreatRows
import Derived.Test.YtponfaglflmnkaaGreatM1
import Derived.Test.YtponfaglflmnkaaGreatM2
import Derived.Test.YtponfaglflmnkaaGreatM4
namespace Go.Proofs.YtponfaglflmnkaaGreat
open Go.RowKit
set_option maxHeartbeats 400000

theorem surrogate_any (c : Int) (w : World) :
    Calls Tryz.prog 135 #[.int .i32 c] w fun e w' => e = .returned (.bool (surB c)) ∧ w = w' := by
  go_enter Tryz.func135, Tryz.ntmps135
  go_wp2
  all_goals (go_ret; exact ⟨ret_bool (by rw [surB, eq_comm]; simp; try omega), rfl⟩)
theorem is_any (c : Int) (w : World) (h1 : -2147483648 ≤ c) (h2 : c ≤ 2147483647) :
    Calls Tryz.prog 122 #[.int .i32 c] w fun e w' => e = .returned (.bool (scB c)) ∧ w = w' := by
  go_enter Tryz.func122, Tryz.ntmps122
  go_wp2_with (go_at_call 135; refine (surrogate_any _ _).mono ?_; rintro e w' ⟨rfl, rfl⟩)
  all_goals (go_ret; exact ⟨ret_bool (by rw [Bool.eq_iff_iff]; simp [scB, surB]; omega), rfl⟩)
theorem rsur_any (c : Int) (w : World) :
    Calls Tryz.prog 61 #[.int .i32 c] w fun e w' => e = .returned (.bool (surB c)) ∧ w = w' := by
  go_enter Tryz.func61, Tryz.ntmps61
  go_wp2
  all_goals (go_ret; exact ⟨ret_bool (by rw [Bool.eq_iff_iff]; simp [surB]; try omega), rfl⟩)
theorem ris_any (c : Int) (w : World) :
    Calls Tryz.prog 35 #[.int .i32 c] w fun e w' => e = .returned (.bool (scB c)) ∧ w = w' := by
  go_enter Tryz.func35, Tryz.ntmps35
  go_wp2_with (go_at_call 61; refine (rsur_any _ _).mono ?_; rintro e w' ⟨rfl, rfl⟩)
  all_goals (go_ret; exact ⟨ret_bool (by rw [Bool.eq_iff_iff]; simp [scB, surB]; omega), rfl⟩)

theorem rfirst_any (v : Value) (xs : List Int) (w : World) (h : Row w v (ints .i32 xs)) (hl : xs.length ≤ 1000000000) :
    Calls Tryz.prog 15 #[v] w fun e w' => e = .returned (.int .i64 (idx (fun c => !scB c) xs)) ∧ w = w' := by
  obtain ⟨a, b, off, cap, rfl, hc, hm, ha, hcell⟩ := h.int
  clear hc hm
  have HC := Lib.hid hcell; clear hcell
  go_enter Tryz.func15, Tryz.ntmps15
  go_wp2
  go_loop [3] (fun i => ∃ k : Nat, k ≤ xs.length ∧ i = .int .i64 k ∧ Hid (∀ y ∈ xs.take k, scB y = true)) (fun i => xs.length - (intOf i).toNat)
  case atStart => exact ⟨0, Nat.zero_le _, rfl, fun y hy => by simp at hy⟩
  case round =>
    obtain ⟨k, hk, rfl, hall⟩ := hrel
    by_cases hlt : k < xs.length
    · obtain ⟨x, hx⟩ : ∃ x, xs[k]? = some x := ⟨_, List.getElem?_eq_getElem hlt⟩
      have HX := Lib.hid hx; clear hx
      have hc := HC.out k x HX.out
      obtain rfl : a = some ⟨b, off, none⟩ := by
        rcases ha with h | ⟨h, _⟩
        · exact h
        · subst h; simp at hlt
      clear ha
      by_cases hs : scB x = true
      · go_wp2_with (go_at_call 35; refine (ris_any _ _).mono ?_; rintro e w' ⟨rfl, rfl⟩)
        go_round
        case rel => exact ⟨k + 1, by omega, by go_num, take_succ_all hall.out HX.out hs⟩
        case measure => simp [intOf]; omega
      · have hs' : scB x = false := by simpa using hs
        clear hs
        go_wp2_with (go_at_call 35; refine (ris_any _ _).mono ?_; rintro e w' ⟨rfl, rfl⟩)
        go_ret
        exact ⟨ret_int (by rw [idx_at (p := fun c => !scB c) (k := k) (fun y hy => by simp [hall.out y hy]) HX.out (by simp [hs'])]), rfl⟩
    · go_wp2
      go_ret
      exact ⟨ret_int (by rw [idx_none (fun y hy => by simp [hall.out y (by rw [List.take_of_length_le (by omega)]; exact hy)])]), rfl⟩
end Go.Proofs.YtponfaglflmnkaaGreat
namespace Go.Proofs.YtponfaglflmnkaaGreat
open Go.RowKit
set_option maxHeartbeats 400000

/-- int32. -/
def R32 (xs : List Int) : Prop := ∀ x ∈ xs, -2147483648 ≤ x ∧ x ≤ 2147483647
theorem R32.get {xs : List Int} (h : R32 xs) {i : Nat} {x : Int} (hx : xs[i]? = some x) : -2147483648 ≤ x ∧ x ≤ 2147483647 := h x (List.mem_of_getElem? hx)

/-- A call of f enters f. -/
def Fnc (f : Nat) : Prop := ∀ args w, Sem.run Tryz.prog (callFunc f args) w = .ok (.enter f args) w
theorem indexFunc_any (f : Nat) (hf : Fnc f) (p : Int → Bool) (hp : Hid (∀ c w, -2147483648 ≤ c → c ≤ 2147483647 → Calls Tryz.prog f #[.int .i32 c] w fun e w' => e = .returned (.bool (p c)) ∧ w = w'))
    (v : Value) (xs : List Int) (w : World) (h : Row w v (ints .i32 xs)) (hr : R32 xs) (hl : xs.length ≤ 1000000000) :
    Calls Tryz.prog 126 #[v, .func (Fn.func f) #[] #[]] w fun e w' => e = .returned (.int .i64 (idx p xs)) ∧ w = w' := by
  obtain ⟨a, b, off, cap, rfl, HC⟩ := h.op
  clear h
  unfold Fnc at hf
  go_enter Tryz.func126, Tryz.ntmps126
  go_wp2
  go_loop [8] (fun i => ∃ k : Nat, k ≤ xs.length ∧ i = .int .i64 k ∧ Hid (∀ y ∈ xs.take k, p y = false)) (fun i => xs.length - (intOf i).toNat)
  case atStart => exact ⟨0, Nat.zero_le _, rfl, fun y hy => by simp at hy⟩
  case round =>
    obtain ⟨k, hk, rfl, hall⟩ := hrel
    by_cases hlt : k < xs.length
    · obtain ⟨x, HX, rfl, hc⟩ := HC.out k hlt
      replace hc := hc w (Below.refl _ _)
      have hxr := hr.get HX.out
      by_cases hs : p x = true
      · go_wp2_with (refine (hp.out _ _ hxr.1 hxr.2).mono ?_; rintro e w' ⟨rfl, rfl⟩)
        go_ret
        exact ⟨ret_int (by rw [idx_at hall.out HX.out hs]), rfl⟩
      · replace hs : p x = false := by simpa using hs
        go_wp2_with (refine (hp.out _ _ hxr.1 hxr.2).mono ?_; rintro e w' ⟨rfl, rfl⟩)
        go_round
        case rel => exact ⟨k + 1, by omega, by go_num, take_succ_all hall.out HX.out hs⟩
        case measure => simp [intOf]; omega
    · go_wp2
      go_ret
      exact ⟨ret_int (by rw [idx_none (fun y hy => hall.out y (by rw [List.take_of_length_le (by omega)]; exact hy))]), rfl⟩

theorem first1_fnc : Fnc 127 := fun args w => by kernel_rfl
theorem first1_any (c : Int) (w : World) (h1 : -2147483648 ≤ c) (h2 : c ≤ 2147483647) :
    Calls Tryz.prog 127 #[.int .i32 c] w fun e w' => e = .returned (.bool (!scB c)) ∧ w = w' := by
  go_enter Tryz.func127, Tryz.ntmps127
  go_wp2_with (go_at_call 122; refine (is_any _ _ h1 h2).mono ?_; rintro e w' ⟨rfl, rfl⟩)
  go_ret
  exact ⟨rfl, rfl⟩
theorem first_any (v : Value) (xs : List Int) (w : World) (h : Row w v (ints .i32 xs)) (hr : R32 xs) (hl : xs.length ≤ 1000000000) :
    Calls Tryz.prog 109 #[v] w fun e w' => e = .returned (.int .i64 (idx (fun c => !scB c) xs)) ∧ w = w' := by
  go_enter Tryz.func109, Tryz.ntmps109
  go_wp2_with (go_at_call 126; refine (indexFunc_any _ first1_fnc _ (fun c w h1 h2 => first1_any c w h1 h2) _ _ _ h hr hl).mono ?_; rintro e w' ⟨rfl, rfl⟩)
  go_ret
  exact ⟨rfl, rfl⟩
/-- All scalar values. -/
def allSc (xs : List Int) : Bool := xs.all scB
theorem idx_allSc (xs : List Int) : (idx (fun c => !scB c) xs == -1) = allSc xs := by
  by_cases h : allSc xs = true
  · rw [idx_none (fun y hy => by simp [List.all_eq_true.1 h y hy]), h]; rfl
  · have hf : allSc xs = false := by simpa using h
    obtain ⟨y, hy, hny⟩ := List.all_eq_false.1 hf
    have : ∃ i, xs.findIdx? (fun c => !scB c) = some i := by
      cases hc : xs.findIdx? (fun c => !scB c) with
      | some i => exact ⟨i, rfl⟩
      | none => rw [List.findIdx?_eq_none_iff] at hc; have := hc y hy; simp at this; exact absurd this hny
    obtain ⟨i, hi⟩ := this
    rw [hf, idx, hi]
    simp
theorem right_any (v : Value) (xs : List Int) (w : World) (h : Row w v (ints .i32 xs)) (hr : R32 xs) (hl : xs.length ≤ 1000000000) :
    Calls Tryz.prog 91 #[v] w fun e w' => e = .returned (.bool (allSc xs)) ∧ w = w' := by
  go_enter Tryz.func91, Tryz.ntmps91
  go_wp2_with (go_at_call 109; refine (first_any _ _ _ h hr hl).mono ?_; rintro e w' ⟨rfl, rfl⟩)
  go_ret
  exact ⟨ret_bool (idx_allSc xs), rfl⟩

theorem idx_neg (xs : List Int) (p : Int → Bool) : -1 ≤ idx p xs := by unfold idx; split <;> omega
theorem allSc_idx {xs : List Int} : allSc xs = decide (idx (fun c => !scB c) xs < 0) := by
  rw [← idx_allSc]; have := idx_neg xs (fun c => !scB c)
  rw [Bool.eq_iff_iff, beq_iff_eq, decide_eq_true_iff]; omega

theorem scB_32 {xs : List Int} (h : allSc xs = true) : R32 xs := fun x hx => by
  have := scB_iff.1 (List.all_eq_true.1 h x hx); omega
theorem idx_none_sc {xs : List Int} (h : allSc xs = true) : idx (fun c => !scB c) xs = -1 := idx_none (fun y hy => by simp [List.all_eq_true.1 h y hy])

theorem WF.u16 {xs : List Int} (h : WF .u16 xs) : Rg 0 65536 xs := fun x hx => wf_u16 (h x hx)
theorem WF.u8 {xs : List Int} (h : WF .u8 xs) : Rg 0 256 xs := fun x hx => wf_u8 (h x hx)
theorem WF.i32 {xs : List Int} (h : WF .i32 xs) : R32 xs := fun x hx => wf_i32 (h x hx)
theorem WF.b {xs : List Int} (h : WF .u8 xs) : Rg 0 256 xs := fun x hx => wf_u8 (h x hx)
theorem WF.get {k : IntKind} {xs : List Int} (h : WF k xs) {i : Nat} {x : Int} (hx : xs[i]? = some x) : (Lit.int k x).wf = true := h x (List.mem_of_getElem? hx)
end Go.Proofs.YtponfaglflmnkaaGreat
namespace Go.Proofs.YtponfaglflmnkaaGreat
theorem octs_cons {c : Int} (h : scB c = true) : ∃ a r, octs c = a :: r := by
  have := octs_len c
  unfold ulenI at this
  rw [if_pos h] at this
  cases ho : octs c with
  | nil => rw [ho] at this; simp at this; split at this <;> (try split at this) <;> (try split at this) <;> omega
  | cons a r => exact ⟨a, r, rfl⟩
theorem eread_octs {c : Int} (h : scB c = true) (s : List Int) : eread (octs c ++ s) = (c, 0) :: eread s := by
  obtain ⟨a, r, ho⟩ := octs_cons h
  have ht := takeR_octs h s
  have hl := octs_len c
  rw [ho] at ht hl ⊢
  rw [List.cons_append] at ht ⊢
  rw [eread_cons, ht]
  simp only []
  congr 2
  rw [← hl, ← List.cons_append, Int.toNat_natCast]
  exact List.drop_left
theorem eread_elay : ∀ xs : List Int, allSc xs = true → eread (elay xs) = xs.map fun c => (c, 0)
  | [], _ => by simp [elay, eread_nil]
  | x :: xs, h => by
    simp only [allSc, List.all_cons, Bool.and_eq_true] at h
    rw [elay_cons, eread_octs h.1, eread_elay xs h.2]; rfl
theorem etext_elay {xs : List Int} (h : allSc xs = true) : etext (elay xs) = xs := by
  rw [etext, eread_elay xs h, List.map_map]
  conv => rhs; rw [← List.map_id xs]
  exact List.map_congr_left fun x _ => by simp [rd]
theorem eerr_elay {xs : List Int} (h : allSc xs = true) : eerr (elay xs) = 0 := by
  rw [eerr, eread_elay xs h]; exact ferr_all (by intro e he; simp at he; exact he.2.symm)
theorem ebad_elay {xs : List Int} (h : allSc xs = true) : ebad (elay xs) = 0 := by
  rw [ebad, eread_elay xs h, List.length_eq_zero_iff, List.filter_eq_nil_iff]
  intro p hp; simp only [List.mem_map] at hp; obtain ⟨x, _, rfl⟩ := hp; simp [bad]
theorem ecount_elay {xs : List Int} (h : allSc xs = true) : (eread (elay xs)).length = xs.length := by rw [eread_elay xs h]; simp
theorem eerr_iff (xs : List Int) : eerr xs = 0 ↔ ∀ p ∈ eread xs, p.2 = 0 := by
  constructor
  · intro h p hp; exact ferr_zero h _ (List.mem_map_of_mem hp)
  · intro h; exact ferr_all (by intro e he; simp only [List.mem_map] at he; obtain ⟨p, hp, rfl⟩ := he; exact h p hp)
theorem ebad_iff (xs : List Int) : ebad xs = 0 ↔ ∀ p ∈ eread xs, p.2 = 0 := by
  rw [ebad, List.length_eq_zero_iff, List.filter_eq_nil_iff]
  simp [bad]
theorem eread_sc {xs : List Int} : Rg 0 256 xs → ∀ p ∈ eread xs, p.2 = 0 → scB p.1 = true := by
  refine eread_ind (fun xs => Rg 0 256 xs → ∀ p ∈ eread xs, p.2 = 0 → scB p.1 = true) (by intro _ p hp; simp [eread_nil] at hp) ?_ _ xs (Nat.le_refl _)
  intro x r ih hg p hp h0
  rw [eread_cons] at hp
  rcases List.mem_cons.1 hp with rfl | hp
  · exact (takeR_good hg h0).1
  · exact ih (hg.drop _) p hp h0
theorem etext_sc {xs : List Int} (hg : Rg 0 256 xs) : allSc (etext xs) = true := by
  rw [allSc, List.all_eq_true]
  intro y hy
  simp only [etext, List.mem_map] at hy
  obtain ⟨p, hp, rfl⟩ := hy
  unfold rd
  split
  · rename_i h; exact eread_sc hg p hp h
  · decide
theorem elay_etext {xs : List Int} : Rg 0 256 xs → (∀ p ∈ eread xs, p.2 = 0) → elay (etext xs) = xs := by
  refine eread_ind (fun xs => Rg 0 256 xs → (∀ p ∈ eread xs, p.2 = 0) → elay (etext xs) = xs) (by intro _ _; simp [etext, eread_nil, elay]) ?_ _ xs (Nat.le_refl _)
  intro x r ih hg h
  have h0 : (takeR (x :: r)).2.2 = 0 := h ((takeR (x :: r)).1, (takeR (x :: r)).2.2) (by rw [eread_cons]; exact List.mem_cons_self)
  obtain ⟨_, h2, h3, _⟩ := takeR_good hg h0
  have ih' := ih (hg.drop _) (fun p hp => h p (by rw [eread_cons]; exact List.mem_cons_of_mem _ hp))
  rw [etext, eread_cons, List.map_cons, elay_cons]
  rw [show rd ((takeR (x :: r)).1, (takeR (x :: r)).2.2) = (takeR (x :: r)).1 by simp [rd, h0], h2]
  rw [etext] at ih'
  rw [ih', List.take_append_drop]
theorem etext_len (xs : List Int) : (etext xs).length = (eread xs).length := by simp [etext]
theorem eread_pos (xs : List Int) : 0 < (eread xs).length ↔ 0 < xs.length := by
  cases xs with
  | nil => simp [eread_nil]
  | cons x r => rw [eread_cons]; simp
end Go.Proofs.YtponfaglflmnkaaGreat
namespace Go.Proofs.YtponfaglflmnkaaGreat
/-- The octet of a sign that latin nine has. -/
def oct9 (c : Int) : Int :=
  if c = 8364 then 164 else if c = 352 then 166 else if c = 353 then 168 else if c = 381 then 180 else if c = 382 then 184 else if c = 338 then 188 else if c = 339 then 189 else if c = 376 then 190 else c
theorem oct9_sign : ∀ n : Fin 256, oct9 (sign9 n.val) = n.val := by decide +kernel
theorem oct9_of {c : Int} (h : nineB c = true) : 0 ≤ oct9 c ∧ oct9 c < 256 ∧ sign9 (oct9 c) = c := by
  obtain ⟨n, hn, rfl⟩ := nine_back h
  have := oct9_sign ⟨n, hn⟩
  simp only at this
  rw [this]
  exact ⟨by omega, by omega, rfl⟩
theorem oct9_at {n : Nat} (hn : n < 256) : oct9 (sign9 n) = n := oct9_sign ⟨n, hn⟩
/-- The octet of a sign that the charset n (no UTF-8) has; the sign of an octet. -/
def oct1 (n c : Int) : Int := if n = 3 then oct9 c else if n = 4 then (wput c).1 else c
def sgn (n x : Int) : Int := if n = 1 then (if x < 128 then x else 65533) else if n = 3 then sign9 x else if n = 4 then wsign x else x
theorem oct1_of {n c : Int} (h1 : 1 ≤ n) (h4 : n ≤ 4) (h : hasB n c = true) : 0 ≤ oct1 n c ∧ oct1 n c < 256 ∧ sgn n (oct1 n c) = c := by
  have hc : n = 1 ∨ n = 2 ∨ n = 3 ∨ n = 4 := by omega
  rcases hc with rfl | rfl | rfl | rfl
  · have := of_decide_eq_true (show decide (0 ≤ c ∧ c < 128) = true from h)
    have e : oct1 1 c = c := rfl
    rw [e]
    exact ⟨by omega, by omega, by show (if c < 128 then c else 65533) = c; rw [if_pos this.2]⟩
  · have := of_decide_eq_true (show decide (0 ≤ c ∧ c < 256) = true from h)
    have e : oct1 2 c = c := rfl
    rw [e]
    exact ⟨by omega, by omega, rfl⟩
  · exact oct9_of (show nineB c = true from h)
  · have := wput_true (show (wput c).2 = true from h)
    exact ⟨this.1, this.2.1, this.2.2.1⟩
def coct (n c : Int) : List Int := if n = 5 then octs c else [oct1 n c]
def coctL (n c : Int) : List Int := if hasB n c then coct n c else []
def claL (n : Int) (t : List Int) : List Int := t.flatMap (coct n)
def claY (n : Int) (t : List Int) : List Int := if 1 ≤ n ∧ n ≤ 5 ∧ t.all (hasB n) = true then claL n t else []
def claE (n : Int) (t : List Int) : Int := if 1 ≤ n ∧ n ≤ 5 then (if t.all (hasB n) = true then 0 else 9) else 10
def creadL (n : Int) (s : List Int) : List Int := if n = 5 then etext s else s.map (sgn n)
theorem coct_len (n c : Int) : (coct n c).length ≤ 4 := by
  unfold coct; split
  · exact octs_len4 c
  · simp
theorem claL_len (n : Int) (t : List Int) : (claL n t).length ≤ 4 * t.length := by
  induction t with
  | nil => simp [claL]
  | cons x r ih =>
    have := coct_len n x
    rw [claL, List.flatMap_cons, List.length_append, List.length_cons]
    rw [claL] at ih; omega
theorem claY_len (n : Int) (t : List Int) : (claY n t).length ≤ 4 * t.length := by
  have := claL_len n t
  unfold claY; split
  · exact this
  · simp
theorem claL_snoc {n : Int} {t : List Int} {k : Nat} {x : Int} (h : t[k]? = some x) : claL n (t.take (k + 1)) = claL n (t.take k) ++ coct n x := by
  rw [List.take_add_one, h, claL, List.flatMap_append]; simp [claL]
theorem has_sc {c : Int} : hasB 5 c = scB c := rfl
theorem all_has5 (t : List Int) : t.all (hasB 5) = allSc t := rfl
theorem coct_rng {n c : Int} (h1 : 1 ≤ n) (h5 : n ≤ 5) (h : hasB n c = true) : Rg 0 256 (coct n c) := by
  unfold coct; split
  · exact octs_rng c
  · intro x hx
    rw [List.mem_singleton.1 hx]
    have := oct1_of h1 (by omega) h
    exact ⟨this.1, this.2.1⟩
theorem claY_rng (n : Int) (t : List Int) : Rg 0 256 (claY n t) := by
  unfold claY; split
  · rename_i h
    intro x hx
    obtain ⟨c, hc, hx⟩ := List.mem_flatMap.1 hx
    exact coct_rng h.1 h.2.1 (List.all_eq_true.1 h.2.2 c hc) x hx
  · intro x hx; cases hx
/-- What is laid is read. -/
theorem cread_lay {n : Int} {t : List Int} (h1 : 1 ≤ n) (h5 : n ≤ 5) (h : t.all (hasB n) = true) : creadL n (claL n t) = t := by
  rcases Decidable.em (n = 5) with rfl | hn
  · rw [creadL, if_pos rfl, claL]
    exact etext_elay (by rw [← all_has5]; exact h)
  · rw [creadL, if_neg hn, claL]
    induction t with
    | nil => rfl
    | cons c r ih =>
      rw [List.all_cons, Bool.and_eq_true] at h
      rw [List.flatMap_cons, List.map_append, ih h.2, coct, if_neg hn, List.map_cons, List.map_nil, (oct1_of h1 (by omega) h.1).2.2]; rfl
theorem sgn_sc {n x : Int} (h0 : 0 ≤ x) (h1 : x < 256) : scB (sgn n x) = true := by
  have k9 : ∀ m : Fin 256, scB (sign9 m.val) = true := by decide +kernel
  have kw : ∀ m : Fin 256, scB (wsign m.val) = true := by decide +kernel
  obtain ⟨m, rfl⟩ : ∃ m : Nat, x = m := ⟨x.toNat, by omega⟩
  unfold sgn
  split
  · split
    · exact scB_iff.2 (by omega)
    · decide
  · split
    · exact k9 ⟨m, by omega⟩
    · split
      · exact kw ⟨m, by omega⟩
      · exact scB_iff.2 (by omega)
theorem cread_sc {n : Int} {s : List Int} (hg : Rg 0 256 s) : allSc (creadL n s) = true := by
  unfold creadL; split
  · exact etext_sc hg
  · refine List.all_eq_true.2 fun c hc => ?_
    obtain ⟨x, hx, rfl⟩ := List.mem_map.1 hc
    exact sgn_sc (hg x hx).1 (hg x hx).2
theorem cread_len (n : Int) (s : List Int) : (creadL n s).length ≤ s.length ∧ (n ≠ 5 → (creadL n s).length = s.length) := by
  unfold creadL; split
  · exact ⟨by rw [etext_len]; exact eread_len s, fun h => absurd (by assumption) h⟩
  · rw [List.length_map]; exact ⟨Nat.le_refl _, fun _ => rfl⟩
end Go.Proofs.YtponfaglflmnkaaGreat
