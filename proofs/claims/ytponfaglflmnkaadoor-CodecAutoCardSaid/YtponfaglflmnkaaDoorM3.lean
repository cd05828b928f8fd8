/- Walks: repertoires: latin nine by the program. · Plain definitions and laws: UTF-8, one sign. · Plain laws: UTF-8, one sign, there and back. · Plain definitions and laws: UTF-8, texts. · Plain laws: UTF-8, texts, there and back. · Plain: texts in charsets. (laid together by program out of single texts). -/
import Derived.Deep.WholeRow
import Derived.Test.YtponfaglflmnkaaDoorM1
import Derived.Test.YtponfaglflmnkaaDoorM2
namespace Go.Proofs.YtponfaglflmnkaaDoor
open Go.RowKit
set_option maxHeartbeats 1000000
set_option maxRecDepth 100000 in
theorem others9_any (w : World) :
    Calls Tryd.prog 52 #[] w fun e w' => e = .returned (.agg (#[.int .u8 164, .int .i32 8364, .int .u8 166, .int .i32 352, .int .u8 168, .int .i32 353, .int .u8 180, .int .i32 381, .int .u8 184, .int .i32 382, .int .u8 188, .int .i32 338, .int .u8 189, .int .i32 339, .int .u8 190, .int .i32 376] : Array Value)) ∧ Below w.heap.size w w' := by
  go_enter Tryd.func52, Tryd.ntmps52
  go_wp2
  refine bodyPost_ret (results_cell_row rfl _ _ _ _ _ _ (.array 8 64) rfl (heap_alloc_last _ _) (by kernel_rfl) (by rfl) (by kernel_rfl)) rfl ?_
  exact ⟨rfl, below_alloc _ _⟩
/-- None of the first k. -/
def NoK (c : Int) (k : Nat) : Prop := ∀ j, j < k → nineO.getD j 0 ≠ c ∧ nineS.getD j 0 ≠ c
theorem NoK.succ {c : Int} {k : Nat} (h : NoK c k) (h1 : nineO.getD k 0 ≠ c) (h2 : nineS.getD k 0 ≠ c) : NoK c (k + 1) := fun j hj => by
  rcases (by omega : j < k ∨ j = k) with h9 | rfl
  · exact h j h9
  · exact ⟨h1, h2⟩
theorem NoK.all {c : Int} (h : NoK c 8) : nineB c = oneB c := by
  have e1 : nineS.contains c = false := by
    cases hc : nineS.contains c with
    | false => rfl
    | true =>
      have h2 := List.contains_iff_mem.1 hc
      obtain ⟨j, hj, he⟩ := List.getElem_of_mem h2
      have hj8 : j < 8 := hj
      have := (h j hj8).2
      rw [List.getD, List.getElem?_eq_getElem hj] at this
      exact absurd he this
  have e2 : nineO.contains c = false := by
    cases hc : nineO.contains c with
    | false => rfl
    | true =>
      have h2 := List.contains_iff_mem.1 hc
      obtain ⟨j, hj, he⟩ := List.getElem_of_mem h2
      have hj8 : j < 8 := hj
      have := (h j hj8).1
      rw [List.getD, List.getElem?_eq_getElem hj] at this
      exact absurd he this
  rw [nineB, e1, e2, oneB]; simp
theorem em3 (c a b : Int) (h1 : nineB b = true) (h2 : nineB a = false) : (c = b ∧ Hid (nineB c = true)) ∨ (c = a ∧ Hid (nineB c = false)) ∨ (a ≠ c ∧ b ≠ c) := by
  rcases (by omega : c = b ∨ c = a ∨ (a ≠ c ∧ b ≠ c)) with rfl | rfl | h
  · exact .inl ⟨rfl, h1⟩
  · exact .inr (.inl ⟨rfl, h2⟩)
  · exact .inr (.inr h)
set_option maxRecDepth 100000 in
theorem latPut_any (c : Int) (w : World) (h1 : -2147483648 ≤ c) (h2 : c ≤ 2147483647) :
    Calls Tryd.prog 40 #[.int .i32 c] w fun e w' => PutP (nineB c) e ∧ Below w.heap.size w w' := by
  go_enter Tryd.func40, Tryd.ntmps40
  go_wp2_with (go_at_call 52; refine (others9_any _).mono ?_; rintro e w1 ⟨rfl, hb1⟩)
  go_loopw [7] (fun i wr => ∃ k : Nat, i = .int .i64 k ∧ k ≤ 8 ∧ NoK c k ∧ Below w.heap.size w wr) (fun i _ => 8 - (intOf i).toNat)
  case atStart => exact ⟨0, rfl, by omega, fun n hn => by omega, hb1⟩
  case round =>
    obtain ⟨k, rfl, hk, HP, hb⟩ := hrel
    by_cases hlt : k < 8
    · rcases (by omega : k = 0 ∨ k = 1 ∨ k = 2 ∨ k = 3 ∨ k = 4 ∨ k = 5 ∨ k = 6 ∨ k = 7) with rfl | rfl | rfl | rfl | rfl | rfl | rfl | rfl
      case' inl => have hcs := em3 c 164 8364 (by decide) (by decide); have hx : ∀ w, (Instr.index 65 (.agg (#[.int .u8 164, .int .i32 8364, .int .u8 166, .int .i32 352, .int .u8 168, .int .i32 353, .int .u8 180, .int .i32 381, .int .u8 184, .int .i32 382, .int .u8 188, .int .i32 338, .int .u8 189, .int .i32 339, .int .u8 190, .int .i32 376] : Array Value)) (.int .i64 0)).run Tryd.prog w = .ok (.agg #[.int .u8 164, .int .i32 8364]) w := fun _ => by kernel_rfl
      case' inr.inl => have hcs := em3 c 166 352 (by decide) (by decide); have hx : ∀ w, (Instr.index 65 (.agg (#[.int .u8 164, .int .i32 8364, .int .u8 166, .int .i32 352, .int .u8 168, .int .i32 353, .int .u8 180, .int .i32 381, .int .u8 184, .int .i32 382, .int .u8 188, .int .i32 338, .int .u8 189, .int .i32 339, .int .u8 190, .int .i32 376] : Array Value)) (.int .i64 1)).run Tryd.prog w = .ok (.agg #[.int .u8 166, .int .i32 352]) w := fun _ => by kernel_rfl
      case' inr.inr.inl => have hcs := em3 c 168 353 (by decide) (by decide); have hx : ∀ w, (Instr.index 65 (.agg (#[.int .u8 164, .int .i32 8364, .int .u8 166, .int .i32 352, .int .u8 168, .int .i32 353, .int .u8 180, .int .i32 381, .int .u8 184, .int .i32 382, .int .u8 188, .int .i32 338, .int .u8 189, .int .i32 339, .int .u8 190, .int .i32 376] : Array Value)) (.int .i64 2)).run Tryd.prog w = .ok (.agg #[.int .u8 168, .int .i32 353]) w := fun _ => by kernel_rfl
      case' inr.inr.inr.inl => have hcs := em3 c 180 381 (by decide) (by decide); have hx : ∀ w, (Instr.index 65 (.agg (#[.int .u8 164, .int .i32 8364, .int .u8 166, .int .i32 352, .int .u8 168, .int .i32 353, .int .u8 180, .int .i32 381, .int .u8 184, .int .i32 382, .int .u8 188, .int .i32 338, .int .u8 189, .int .i32 339, .int .u8 190, .int .i32 376] : Array Value)) (.int .i64 3)).run Tryd.prog w = .ok (.agg #[.int .u8 180, .int .i32 381]) w := fun _ => by kernel_rfl
      case' inr.inr.inr.inr.inl => have hcs := em3 c 184 382 (by decide) (by decide); have hx : ∀ w, (Instr.index 65 (.agg (#[.int .u8 164, .int .i32 8364, .int .u8 166, .int .i32 352, .int .u8 168, .int .i32 353, .int .u8 180, .int .i32 381, .int .u8 184, .int .i32 382, .int .u8 188, .int .i32 338, .int .u8 189, .int .i32 339, .int .u8 190, .int .i32 376] : Array Value)) (.int .i64 4)).run Tryd.prog w = .ok (.agg #[.int .u8 184, .int .i32 382]) w := fun _ => by kernel_rfl
      case' inr.inr.inr.inr.inr.inl => have hcs := em3 c 188 338 (by decide) (by decide); have hx : ∀ w, (Instr.index 65 (.agg (#[.int .u8 164, .int .i32 8364, .int .u8 166, .int .i32 352, .int .u8 168, .int .i32 353, .int .u8 180, .int .i32 381, .int .u8 184, .int .i32 382, .int .u8 188, .int .i32 338, .int .u8 189, .int .i32 339, .int .u8 190, .int .i32 376] : Array Value)) (.int .i64 5)).run Tryd.prog w = .ok (.agg #[.int .u8 188, .int .i32 338]) w := fun _ => by kernel_rfl
      case' inr.inr.inr.inr.inr.inr.inl => have hcs := em3 c 189 339 (by decide) (by decide); have hx : ∀ w, (Instr.index 65 (.agg (#[.int .u8 164, .int .i32 8364, .int .u8 166, .int .i32 352, .int .u8 168, .int .i32 353, .int .u8 180, .int .i32 381, .int .u8 184, .int .i32 382, .int .u8 188, .int .i32 338, .int .u8 189, .int .i32 339, .int .u8 190, .int .i32 376] : Array Value)) (.int .i64 6)).run Tryd.prog w = .ok (.agg #[.int .u8 189, .int .i32 339]) w := fun _ => by kernel_rfl
      case' inr.inr.inr.inr.inr.inr.inr => have hcs := em3 c 190 376 (by decide) (by decide); have hx : ∀ w, (Instr.index 65 (.agg (#[.int .u8 164, .int .i32 8364, .int .u8 166, .int .i32 352, .int .u8 168, .int .i32 353, .int .u8 180, .int .i32 381, .int .u8 184, .int .i32 382, .int .u8 188, .int .i32 338, .int .u8 189, .int .i32 339, .int .u8 190, .int .i32 376] : Array Value)) (.int .i64 7)).run Tryd.prog w = .ok (.agg #[.int .u8 190, .int .i32 376]) w := fun _ => by kernel_rfl
      all_goals
        rcases hcs with ⟨rfl, HF⟩ | ⟨rfl, HF⟩ | ⟨ho, hs⟩
        · go_wp2
          go_ret2
          exact ⟨PutP.mk HF.out, by first | exact hb | exact hb.alloc hb.size _⟩
        · go_wp2
          go_ret2
          exact ⟨PutP.mk HF.out, by first | exact hb | exact hb.alloc hb.size _⟩
        · have hs1 := beq_false_of_ne (Ne.symm hs)
          have ho1 := beq_false_of_ne (Ne.symm ho)
          have HP2 := Lib.hid (NoK.succ HP ho hs)
          clear ho hs HP
          go_wp2_with fail
          go_roundw
          case rel => exact ⟨_, by first | exact iv (by rfl) | go_num, by omega, HP2.out, by first | exact hb | exact hb.alloc hb.size _⟩
          case measure => simp [intOf]
    · obtain rfl : k = 8 := by omega
      have HN := Lib.hid HP.all
      clear HP
      rcases Decidable.em (c < 0) with h3 | h3
      · have HF : Hid (nineB c = false) := by rw [HN.out, oneB]; exact decide_eq_false (by omega)
        go_wp2
        go_ret2
        exact ⟨PutP.mk HF.out, hb⟩
      · rcases Decidable.em (256 ≤ c) with h4 | h4
        · have HF : Hid (nineB c = false) := by rw [HN.out, oneB]; exact decide_eq_false (by omega)
          go_wp2
          go_ret2
          exact ⟨PutP.mk HF.out, hb⟩
        · have HF : Hid (nineB c = true) := by rw [HN.out, oneB]; exact decide_eq_true (by omega)
          go_wp2
          go_ret2
          exact ⟨PutP.mk HF.out, hb⟩
theorem latHas_any (c : Int) (w : World) (h1 : -2147483648 ≤ c) (h2 : c ≤ 2147483647) :
    Calls Tryd.prog 62 #[.int .i32 c] w fun e w' => e = .returned (.bool (nineB c)) ∧ Below w.heap.size w w' := by
  go_enter Tryd.func62, Tryd.ntmps62
  go_wp2_with (go_at_call 40; refine (latPut_any c _ h1 h2).mono ?_; rintro e w1 ⟨⟨x, rfl⟩, hb1⟩)
  go_ret
  exact ⟨rfl, hb1⟩
end Go.Proofs.YtponfaglflmnkaaDoor
namespace Go.Proofs.YtponfaglflmnkaaDoor
def wideI (x : Int) : Int := if x < 128 then 1 else if 194 ≤ x ∧ x ≤ 223 then 2 else if 224 ≤ x ∧ x ≤ 239 then 3 else if 240 ≤ x ∧ x ≤ 244 then 4 else 0
def folB (x : Int) : Bool := decide (128 ≤ x ∧ x ≤ 191)
theorem folB_iff {x : Int} : folB x = true ↔ (128 ≤ x ∧ x ≤ 191) := decide_eq_true_iff
def loI (a : Int) : Int := if a = 224 then 160 else if a = 240 then 144 else 128
def hiI (a : Int) : Int := if a = 237 then 159 else if a = 244 then 143 else 191
def secB (a y : Int) : Bool := decide (loI a ≤ y ∧ y ≤ hiI a)
theorem secB_iff {a y : Int} : secB a y = true ↔ (loI a ≤ y ∧ y ≤ hiI a) := decide_eq_true_iff
def ulenI (c : Int) : Int := if scB c then (if c < 128 then 1 else if c < 2048 then 2 else if c < 65536 then 3 else 4) else 0
def octs (c : Int) : List Int :=
  if scB c then (if c < 128 then [c] else if c < 2048 then [192 + c / 64, 128 + c % 64]
    else if c < 65536 then [224 + c / 4096, 128 + c / 64 % 64, 128 + c % 64]
    else [240 + c / 262144, 128 + c / 4096 % 64, 128 + c / 64 % 64, 128 + c % 64]) else []
theorem octs_len (c : Int) : ((octs c).length : Int) = ulenI c := by
  unfold octs ulenI; split
  · split
    · rfl
    · split
      · rfl
      · split <;> rfl
  · rfl
theorem octs_len4 (c : Int) : (octs c).length ≤ 4 := by
  have := octs_len c; unfold ulenI at this; split at this <;> (try split at this) <;> (try split at this) <;> (try split at this) <;> omega
theorem octs_rng (c : Int) : Rg 0 256 (octs c) := by
  unfold octs
  split
  · rename_i h
    have := scB_iff.1 h
    split
    · intro y hy; simp at hy; omega
    · split
      · intro y hy; simp at hy; omega
      · split
        · intro y hy; simp at hy; omega
        · intro y hy; simp at hy; omega
  · exact Rg.nil _ _
/-- May the octet y stand at place j of a sign that a begins? -/
def okAt (a : Int) (j : Nat) (y : Int) : Bool := if j = 1 then secB a y else folB y
/-- How many octets are well formed, j so far. -/
def farL (a : Int) : Nat → List Int → Nat
  | j, [] => j
  | j, y :: r => if (j : Int) < wideI a ∧ okAt a j y = true then farL a (j + 1) r else j
def far : List Int → Nat
  | [] => 0
  | a :: r => if wideI a = 0 then 0 else farL a 1 r
theorem wideI_rng (x : Int) : 0 ≤ wideI x ∧ wideI x ≤ 4 := by unfold wideI; split <;> (try split) <;> (try split) <;> (try split) <;> omega
theorem farL_bounds (a : Int) : ∀ (r : List Int) (j : Nat), j ≤ farL a j r ∧ farL a j r ≤ j + r.length ∧ ((j : Int) ≤ wideI a → (farL a j r : Int) ≤ wideI a)
  | [], j => by simp [farL]
  | y :: r, j => by
    unfold farL
    split
    · rename_i h
      have := farL_bounds a r (j + 1)
      simp only [List.length_cons]
      refine ⟨by omega, by omega, fun _ => this.2.2 (by omega)⟩
    · simp
def leadI (n : Int) : Int := if n = 2 then 192 else if n = 3 then 224 else if n = 4 then 240 else 0
/-- The number that the octets behind the first one make. -/
def valL (c : Int) : List Int → Int
  | [] => c
  | y :: r => valL (64 * c + (y - 128)) r
theorem valL_snoc (c : Int) : ∀ (r : List Int) (y : Int), valL c (r ++ [y]) = 64 * valL c r + (y - 128)
  | [], y => rfl
  | x :: r, y => by simp only [List.cons_append, valL]; exact valL_snoc _ r y
/-- What is taken: the sign, of how many octets, the error. -/
def takeR : List Int → Int × Int × Int
  | [] => (0, 0, 4)
  | a :: r =>
    if wideI a = 0 then (0, 1, 3)
    else if (farL a 1 r : Int) = wideI a then (valL (a - leadI (wideI a)) (r.take (farL a 1 r - 1)), farL a 1 r, 0)
    else if farL a 1 r = r.length + 1 then (0, farL a 1 r, 4)
    else (0, farL a 1 r, 3)

theorem byte_all {P : Int → Prop} (h : ∀ n : Fin 256, P (n.val : Int)) {x : Int} (h0 : 0 ≤ x) (h1 : x < 256) : P x := by
  have := h ⟨x.toNat, by omega⟩
  simp only [] at this
  rwa [Int.toNat_of_nonneg h0] at this
theorem fol_bits {x : Int} (h0 : 0 ≤ x) (h1 : x < 256) : (bits .andNot .u8 x 63 == 128) = folB x :=
  byte_all (P := fun x => (bits .andNot .u8 x 63 == 128) = folB x) (by decide +kernel) h0 h1
theorem secB_fol {a y : Int} (h : secB a y = true) : folB y = true := by
  rw [secB_iff] at h; rw [folB_iff]; unfold loI hiI at h
  split at h <;> (try split at h) <;> (try split at h) <;> (try split at h) <;> omega

theorem farL_ok (a : Int) : ∀ (r : List Int) (j : Nat), 1 ≤ j → ∀ y ∈ r.take (farL a j r - j), folB y = true
  | [], j, _ => by simp
  | x :: r, j, hj => by
    unfold farL
    split
    · rename_i h
      have hb := (farL_bounds a r (j + 1)).1
      intro y hy
      rw [show farL a (j + 1) r - j = (farL a (j + 1) r - (j + 1)) + 1 by omega, List.take_succ_cons] at hy
      rcases List.mem_cons.1 hy with rfl | hy
      · have h2 := h.2
        unfold okAt at h2
        split at h2
        · exact secB_fol h2
        · exact h2
      · exact farL_ok a r (j + 1) (by omega) y hy
    · intro y hy; simp at hy
theorem andNot_lead {a : Int} (h0 : 0 ≤ a) (h1 : a < 256) : wideI a = 0 ∨ (bits .andNot .u8 a (leadI (wideI a)) = a - leadI (wideI a) ∧ 0 ≤ a - leadI (wideI a) ∧ a - leadI (wideI a) < 128 ∧ 0 ≤ leadI (wideI a)) :=
  byte_all (P := fun a => wideI a = 0 ∨ (bits .andNot .u8 a (leadI (wideI a)) = a - leadI (wideI a) ∧ 0 ≤ a - leadI (wideI a) ∧ a - leadI (wideI a) < 128 ∧ 0 ≤ leadI (wideI a))) (by decide +kernel) h0 h1
def bnd (k : Nat) : Int := if k = 0 then 128 else if k = 1 then 8192 else if k = 2 then 524288 else 33554432
theorem bnd_succ {k : Nat} (hk : k < 3) {m : Int} (h0 : 0 ≤ m) (h : m < bnd k) {y : Int} (hy : folB y = true) : 0 ≤ 64 * m + (y - 128) ∧ 64 * m + (y - 128) < bnd (k + 1) := by
  rw [folB_iff] at hy
  rcases (by omega : k = 0 ∨ k = 1 ∨ k = 2) with rfl | rfl | rfl <;> simp [bnd] at h ⊢ <;> omega
theorem bnd_le (k : Nat) : bnd k ≤ 33554432 := by unfold bnd; split <;> (try split) <;> (try split) <;> omega
theorem takeR_bad {a : Int} {r : List Int} (h : wideI a = 0) : takeR (a :: r) = (0, 1, 3) := by simp [takeR, h]
theorem takeR_ok {a : Int} {r : List Int} (h : wideI a ≠ 0) (h1 : (farL a 1 r : Int) = wideI a) : takeR (a :: r) = (valL (a - leadI (wideI a)) (r.take (farL a 1 r - 1)), ((farL a 1 r : Nat) : Int), 0) := by rw [takeR, if_neg h, if_pos h1]
theorem takeR_end {a : Int} {r : List Int} (h : wideI a ≠ 0) (h1 : (farL a 1 r : Int) ≠ wideI a) (h2 : farL a 1 r = r.length + 1) : takeR (a :: r) = (0, ((farL a 1 r : Nat) : Int), 4) := by
  rw [takeR, if_neg h, if_neg h1, if_pos h2]
theorem takeR_form {a : Int} {r : List Int} (h : wideI a ≠ 0) (h1 : (farL a 1 r : Int) ≠ wideI a) (h2 : farL a 1 r ≠ r.length + 1) : takeR (a :: r) = (0, ((farL a 1 r : Nat) : Int), 3) := by
  rw [takeR, if_neg h, if_neg h1, if_neg h2]
end Go.Proofs.YtponfaglflmnkaaDoor
namespace Go.Proofs.YtponfaglflmnkaaDoor
theorem wide_cases (a : Int) : (wideI a = 1 ∧ a < 128) ∨ (wideI a = 2 ∧ 194 ≤ a ∧ a ≤ 223) ∨ (wideI a = 3 ∧ 224 ≤ a ∧ a ≤ 239) ∨ (wideI a = 4 ∧ 240 ≤ a ∧ a ≤ 244) ∨ wideI a = 0 := by
  unfold wideI; split
  · omega
  · split
    · omega
    · split
      · omega
      · split <;> omega
theorem farL_step {a y : Int} {j : Nat} {r : List Int} (h1 : (j : Int) < wideI a) (h2 : okAt a j y = true) : farL a j (y :: r) = farL a (j + 1) r := by rw [farL, if_pos ⟨h1, h2⟩]
theorem farL_end {a : Int} {j : Nat} {r : List Int} (h1 : ¬ (j : Int) < wideI a) : farL a j r = j := by
  cases r with
  | nil => rfl
  | cons y r => rw [farL, if_neg (by omega)]
theorem farL_inv {a : Int} {j : Nat} {r : List Int} (h : j < farL a j r) : ∃ y r', r = y :: r' ∧ okAt a j y = true ∧ farL a j r = farL a (j + 1) r' := by
  cases r with
  | nil => simp [farL] at h
  | cons y r =>
    by_cases hc : (j : Int) < wideI a ∧ okAt a j y = true
    · exact ⟨y, r, rfl, hc.2, by rw [farL, if_pos hc]⟩
    · rw [farL, if_neg hc] at h; omega
theorem takeR_octs {c : Int} (h : scB c = true) (s : List Int) : takeR (octs c ++ s) = (c, ulenI c, 0) := by
  have hc := scB_iff.1 h
  by_cases h1 : c < 128
  · have hw : wideI c = 1 := by unfold wideI; rw [if_pos h1]
    have hf : farL c 1 s = 1 := farL_end (by rw [hw]; omega)
    rw [show octs c = [c] by rw [octs, if_pos h, if_pos h1], show ulenI c = 1 by rw [ulenI, if_pos h, if_pos h1]]
    rw [List.singleton_append, takeR_ok (by omega) (by rw [hf, hw]; rfl), hf, hw]
    simp [valL, leadI]
  · by_cases h2 : c < 2048
    · have hw : wideI (192 + c / 64) = 2 := by unfold wideI; rw [if_neg (by omega), if_pos (by omega)]
      have hf : farL (192 + c / 64) 1 ((128 + c % 64) :: s) = 2 := by
        rw [farL_step (by rw [hw]; omega) (by simp only [okAt, if_true, secB_iff, loI, hiI]; rw [if_neg (by omega), if_neg (by omega), if_neg (by omega), if_neg (by omega)]; omega), farL_end (by rw [hw]; omega)]
      rw [show octs c = [192 + c / 64, 128 + c % 64] by rw [octs, if_pos h, if_neg h1, if_pos h2], show ulenI c = 2 by rw [ulenI, if_pos h, if_neg h1, if_pos h2]]
      rw [show [192 + c / 64, 128 + c % 64] ++ s = (192 + c / 64) :: (128 + c % 64) :: s from rfl, takeR_ok (by omega) (by rw [hf, hw]; rfl), hf, hw]
      simp [valL, leadI]; omega
    · by_cases h3 : c < 65536
      · have hw : wideI (224 + c / 4096) = 3 := by unfold wideI; rw [if_neg (by omega), if_neg (by omega), if_pos (by omega)]
        have hs : secB (224 + c / 4096) (128 + c / 64 % 64) = true := by
          rw [secB_iff]; unfold loI hiI
          split <;> split <;> (try split) <;> (try split) <;> omega
        have hf : farL (224 + c / 4096) 1 ((128 + c / 64 % 64) :: (128 + c % 64) :: s) = 3 := by
          rw [farL_step (by rw [hw]; omega) (by simp only [okAt, if_true]; exact hs), farL_step (by rw [hw]; omega) (by simp only [okAt]; rw [if_neg (by omega), folB_iff]; omega), farL_end (by rw [hw]; omega)]
        rw [show octs c = [224 + c / 4096, 128 + c / 64 % 64, 128 + c % 64] by rw [octs, if_pos h, if_neg h1, if_neg h2, if_pos h3], show ulenI c = 3 by rw [ulenI, if_pos h, if_neg h1, if_neg h2, if_pos h3]]
        rw [show [224 + c / 4096, 128 + c / 64 % 64, 128 + c % 64] ++ s = (224 + c / 4096) :: (128 + c / 64 % 64) :: (128 + c % 64) :: s from rfl, takeR_ok (by omega) (by rw [hf, hw]; rfl), hf, hw]
        simp [valL, leadI]; omega
      · have hw : wideI (240 + c / 262144) = 4 := by unfold wideI; rw [if_neg (by omega), if_neg (by omega), if_neg (by omega), if_pos (by omega)]
        have hs : secB (240 + c / 262144) (128 + c / 4096 % 64) = true := by
          rw [secB_iff]; unfold loI hiI
          split <;> (try split) <;> (try split) <;> (try split) <;> omega
        have hf : farL (240 + c / 262144) 1 ((128 + c / 4096 % 64) :: (128 + c / 64 % 64) :: (128 + c % 64) :: s) = 4 := by
          rw [farL_step (by rw [hw]; omega) (by simp only [okAt, if_true]; exact hs), farL_step (by rw [hw]; omega) (by simp only [okAt]; rw [if_neg (by omega), folB_iff]; omega), farL_step (by rw [hw]; omega) (by simp only [okAt]; rw [if_neg (by omega), folB_iff]; omega), farL_end (by rw [hw]; omega)]
        rw [show octs c = [240 + c / 262144, 128 + c / 4096 % 64, 128 + c / 64 % 64, 128 + c % 64] by rw [octs, if_pos h, if_neg h1, if_neg h2, if_neg h3], show ulenI c = 4 by rw [ulenI, if_pos h, if_neg h1, if_neg h2, if_neg h3]]
        rw [show [240 + c / 262144, 128 + c / 4096 % 64, 128 + c / 64 % 64, 128 + c % 64] ++ s = (240 + c / 262144) :: (128 + c / 4096 % 64) :: (128 + c / 64 % 64) :: (128 + c % 64) :: s from rfl, takeR_ok (by omega) (by rw [hf, hw]; rfl), hf, hw]
        simp [valL, leadI]; omega
/-- What is taken is a scalar value, and its octets stand there. -/
theorem takeR_good {xs : List Int} (hg : Rg 0 256 xs) (h : (takeR xs).2.2 = 0) : scB (takeR xs).1 = true ∧ octs (takeR xs).1 = xs.take (takeR xs).2.1.toNat ∧ (takeR xs).2.1 ≤ xs.length ∧ (takeR xs).2.1 = (octs (takeR xs).1).length := by
  cases xs with
  | nil => simp [takeR] at h
  | cons a r =>
    obtain ⟨⟨ha0, _⟩, _⟩ := hg.cons
    have hb := farL_bounds a r 1
    by_cases hw : wideI a = 0
    · rw [takeR_bad hw] at h; simp at h
    · by_cases hN : (farL a 1 r : Int) = wideI a
      · rw [takeR_ok hw hN] at h ⊢
        simp only []
        rcases wide_cases a with ⟨h1, h2⟩ | ⟨h1, h2, h2'⟩ | ⟨h1, h2, h2'⟩ | ⟨h1, h2, h2'⟩ | h1
        · have hf : farL a 1 r = 1 := by omega
          rw [hf, h1]
          have hs : scB a = true := by rw [scB_iff]; omega
          simp only [Nat.sub_self, List.take_zero, valL, leadI]
          simp [hs, octs, h2]; omega
        · have hf : farL a 1 r = 2 := by omega
          obtain ⟨y, r', rfl, hy, _⟩ := farL_inv (a := a) (j := 1) (r := r) (by omega)
          simp only [okAt, if_true, secB_iff, loI, hiI] at hy
          rw [if_neg (by omega), if_neg (by omega), if_neg (by omega), if_neg (by omega)] at hy
          rw [hf, h1]
          simp only [leadI, valL, List.take_succ_cons, List.take_zero, if_true, show 2 - 1 = 1 from rfl]
          have hs : scB (64 * (a - 192) + (y - 128)) = true := by rw [scB_iff]; omega
          have ho : octs (64 * (a - 192) + (y - 128)) = [a, y] := by
            rw [octs, if_pos hs, if_neg (by omega), if_pos (by omega)]; congr 1
            · omega
            · congr 1; omega
          rw [ho]
          refine ⟨hs, by simp, by simp; omega, by simp⟩
        · have hf : farL a 1 r = 3 := by omega
          obtain ⟨y, r', rfl, hy, e1⟩ := farL_inv (a := a) (j := 1) (r := r) (by omega)
          rw [hf] at e1
          replace e1 : _ = farL a 2 r' := e1
          obtain ⟨z, r'', rfl, hz, _⟩ := farL_inv (a := a) (j := 2) (r := r') (by omega)
          simp only [okAt, if_true, secB_iff] at hy
          simp only [okAt] at hz
          rw [if_neg (by omega), folB_iff] at hz
          rw [hf, h1, show leadI 3 = 224 from rfl]
          simp only [valL, List.take_succ_cons, List.take_zero, show 3 - 1 = 2 from rfl]
          have hy2 : (a = 224 → 160 ≤ y) ∧ (a = 237 → y ≤ 159) ∧ 128 ≤ y ∧ y ≤ 191 := by
            unfold loI hiI at hy
            split at hy <;> split at hy <;> (try split at hy) <;> (try split at hy) <;> omega
          have hs : scB (64 * (64 * (a - 224) + (y - 128)) + (z - 128)) = true := by rw [scB_iff]; omega
          have ho : octs (64 * (64 * (a - 224) + (y - 128)) + (z - 128)) = [a, y, z] := by
            rw [octs, if_pos hs, if_neg (by omega), if_neg (by omega), if_pos (by omega)]; congr 1
            · omega
            · congr 1
              · omega
              · congr 1; omega
          rw [ho]
          refine ⟨hs, by simp, by simp; omega, by simp⟩
        · have hf : farL a 1 r = 4 := by omega
          obtain ⟨y, r', rfl, hy, e1⟩ := farL_inv (a := a) (j := 1) (r := r) (by omega)
          rw [hf] at e1
          replace e1 : _ = farL a 2 r' := e1
          obtain ⟨z, r'', rfl, hz, e2⟩ := farL_inv (a := a) (j := 2) (r := r') (by omega)
          rw [← e1] at e2
          replace e2 : _ = farL a 3 r'' := e2
          obtain ⟨u, r3, rfl, hu, _⟩ := farL_inv (a := a) (j := 3) (r := r'') (by omega)
          simp only [okAt, if_true, secB_iff] at hy
          simp only [okAt] at hz hu
          rw [if_neg (by omega), folB_iff] at hz hu
          rw [hf, h1, show leadI 4 = 240 from rfl]
          simp only [valL, List.take_succ_cons, List.take_zero, show 4 - 1 = 3 from rfl]
          have hy2 : (a = 240 → 144 ≤ y) ∧ (a = 244 → y ≤ 143) ∧ 128 ≤ y ∧ y ≤ 191 := by
            unfold loI hiI at hy
            split at hy <;> (try split at hy) <;> (try split at hy) <;> (try split at hy) <;> omega
          have hs : scB (64 * (64 * (64 * (a - 240) + (y - 128)) + (z - 128)) + (u - 128)) = true := by rw [scB_iff]; omega
          have ho : octs (64 * (64 * (64 * (a - 240) + (y - 128)) + (z - 128)) + (u - 128)) = [a, y, z, u] := by
            rw [octs, if_pos hs, if_neg (by omega), if_neg (by omega), if_neg (by omega)]; congr 1
            · omega
            · congr 1
              · omega
              · congr 1
                · omega
                · congr 1; omega
          rw [ho]
          refine ⟨hs, by simp, by simp; omega, by simp⟩
        · exact absurd h1 hw
      · by_cases hE : farL a 1 r = r.length + 1
        · rw [takeR_end hw hN hE] at h; simp at h
        · rw [takeR_form hw hN hE] at h; simp at h
theorem takeR_n (xs : List Int) : 0 ≤ (takeR xs).2.1 ∧ (takeR xs).2.1 ≤ xs.length ∧ ((takeR xs).2.1 > 0 ↔ xs.length > 0) := by
  cases xs with
  | nil => simp [takeR]
  | cons a r =>
    have hb := farL_bounds a r 1
    by_cases hw : wideI a = 0
    · rw [takeR_bad hw]; simp; omega
    · by_cases hN : (farL a 1 r : Int) = wideI a
      · rw [takeR_ok hw hN]; simp; omega
      · by_cases hE : farL a 1 r = r.length + 1
        · rw [takeR_end hw hN hE]; simp; omega
        · rw [takeR_form hw hN hE]; simp; omega
theorem takeR_32 {xs : List Int} (hg : Rg 0 256 xs) : -2147483648 ≤ (takeR xs).1 ∧ (takeR xs).1 ≤ 2147483647 := by
  by_cases h : (takeR xs).2.2 = 0
  · have := scB_iff.1 (takeR_good hg h).1; omega
  · cases xs with
    | nil => simp [takeR]
    | cons a r =>
      by_cases hw : wideI a = 0
      · rw [takeR_bad hw]; simp
      · by_cases hN : (farL a 1 r : Int) = wideI a
        · rw [takeR_ok hw hN] at h; simp at h
        · by_cases hE : farL a 1 r = r.length + 1
          · rw [takeR_end hw hN hE]; simp
          · rw [takeR_form hw hN hE]; simp
theorem octs_inj {a b : Int} (ha : scB a = true) (hb : scB b = true) {s : List Int} (h : octs b = octs a ++ s) : a = b := by
  have h1 := takeR_octs ha s
  have h2 := takeR_octs hb []
  rw [List.append_nil, h, h1] at h2
  exact (Prod.ext_iff.1 h2).1
end Go.Proofs.YtponfaglflmnkaaDoor
namespace Go.Proofs.YtponfaglflmnkaaDoor
theorem takeR_pos (x : Int) (r : List Int) : 1 ≤ (takeR (x :: r)).2.1 := by
  have := (takeR_n (x :: r)).2.2
  simp only [List.length_cons] at this; omega
/-- The signs that octets begin with, one behind the other, and their errors. -/
def eread : List Int → List (Int × Int)
  | [] => []
  | x :: r => ((takeR (x :: r)).1, (takeR (x :: r)).2.2) :: eread ((x :: r).drop (takeR (x :: r)).2.1.toNat)
termination_by xs => xs.length
decreasing_by
  have := takeR_pos x r
  simp only [List.length_drop, List.length_cons]; omega
theorem eread_nil : eread [] = [] := by rw [eread]
theorem eread_cons (x : Int) (r : List Int) : eread (x :: r) = ((takeR (x :: r)).1, (takeR (x :: r)).2.2) :: eread ((x :: r).drop (takeR (x :: r)).2.1.toNat) := by rw [eread]
/-- What is read of a sign. -/
def rd (p : Int × Int) : Int := if p.2 = 0 then p.1 else 65533
def bad (p : Int × Int) : Bool := p.2 != 0
def etext (xs : List Int) : List Int := (eread xs).map rd
def eerr (xs : List Int) : Int := ferr ((eread xs).map Prod.snd)
def ebad (xs : List Int) : Nat := ((eread xs).filter bad).length
theorem eread_ind (P : List Int → Prop) (h0 : P []) (hs : ∀ x r, P ((x :: r).drop (takeR (x :: r)).2.1.toNat) → P (x :: r)) (n : Nat) : ∀ xs : List Int, xs.length ≤ n → P xs := by
  induction n with
  | zero => intro xs h; obtain rfl : xs = [] := List.eq_nil_of_length_eq_zero (by omega); exact h0
  | succ n ih =>
    intro xs h
    cases xs with
    | nil => exact h0
    | cons x r =>
      have := takeR_pos x r
      exact hs x r (ih _ (by simp at h ⊢; omega))
theorem eread_len (xs : List Int) : (eread xs).length ≤ xs.length := by
  refine eread_ind (fun xs => (eread xs).length ≤ xs.length) (by simp [eread_nil]) ?_ _ xs (Nat.le_refl _)
  intro x r ih
  have := takeR_pos x r
  rw [eread_cons]
  simp only [List.length_cons, List.length_drop] at ih ⊢; omega
/-- The octets of a text. -/
def elay (xs : List Int) : List Int := xs.flatMap octs
theorem elay_cons (x : Int) (xs : List Int) : elay (x :: xs) = octs x ++ elay xs := by simp [elay]
theorem elay_snoc {xs : List Int} {k : Nat} {x : Int} (h : xs[k]? = some x) : elay (xs.take (k + 1)) = elay (xs.take k) ++ octs x := by
  simp [elay, List.take_add_one, h]
theorem elay_len (xs : List Int) : (elay xs).length ≤ 4 * xs.length := by
  induction xs with
  | nil => simp [elay]
  | cons x xs ih => have := octs_len4 x; rw [elay_cons]; simp only [List.length_append, List.length_cons] at ih ⊢; omega
theorem elay_rng : ∀ xs : List Int, Rg 0 256 (elay xs)
  | [] => Rg.nil _ _
  | x :: xs => by rw [elay_cons]; exact (octs_rng x).append (elay_rng xs)
/-- How many octets a text has. -/
def elen (xs : List Int) : Int := (xs.map ulenI).sum
theorem elen_eq (xs : List Int) : elen xs = (elay xs).length := by
  induction xs with
  | nil => simp [elen, elay]
  | cons x xs ih => rw [elay_cons]; simp only [elen, List.map_cons, List.sum_cons, List.length_append] at ih ⊢; rw [ih, ← octs_len x]; simp
theorem elen_snoc {xs : List Int} {k : Nat} {x : Int} (h : xs[k]? = some x) : elen (xs.take (k + 1)) = elen (xs.take k) + ulenI x := by
  simp [elen, List.take_add_one, h]
end Go.Proofs.YtponfaglflmnkaaDoor
namespace Go.Proofs.YtponfaglflmnkaaDoor
theorem octs_cons {c : Int} (h : scB c = true) : ∃ a r, octs c = a :: r := by
  have := octs_len c
  unfold ulenI at this
  rw [if_pos h] at this
  cases ho : octs c with
  | nil => rw [ho] at this; simp at this; split at this <;> (try split at this) <;> (try split at this) <;> omega
  | cons a r => exact ⟨a, r, rfl⟩
theorem eread_octs {c : Int} (h : scB c = true) (s : List Int) : eread (octs c ++ s) = (c, 0) :: eread s := by
  obtain ⟨a, r, ho⟩ := octs_cons h
  have ht := takeR_octs h s
  have hl := octs_len c
  rw [ho] at ht hl ⊢
  rw [List.cons_append] at ht ⊢
  rw [eread_cons, ht]
  simp only []
  congr 2
  rw [← hl, ← List.cons_append, Int.toNat_natCast]
  exact List.drop_left
theorem eread_elay : ∀ xs : List Int, allSc xs = true → eread (elay xs) = xs.map fun c => (c, 0)
  | [], _ => by simp [elay, eread_nil]
  | x :: xs, h => by
    simp only [allSc, List.all_cons, Bool.and_eq_true] at h
    rw [elay_cons, eread_octs h.1, eread_elay xs h.2]; rfl
theorem etext_elay {xs : List Int} (h : allSc xs = true) : etext (elay xs) = xs := by
  rw [etext, eread_elay xs h, List.map_map]
  conv => rhs; rw [← List.map_id xs]
  exact List.map_congr_left fun x _ => by simp [rd]
theorem eerr_elay {xs : List Int} (h : allSc xs = true) : eerr (elay xs) = 0 := by
  rw [eerr, eread_elay xs h]; exact ferr_all (by intro e he; simp at he; exact he.2.symm)
theorem ebad_elay {xs : List Int} (h : allSc xs = true) : ebad (elay xs) = 0 := by
  rw [ebad, eread_elay xs h, List.length_eq_zero_iff, List.filter_eq_nil_iff]
  intro p hp; simp only [List.mem_map] at hp; obtain ⟨x, _, rfl⟩ := hp; simp [bad]
theorem ecount_elay {xs : List Int} (h : allSc xs = true) : (eread (elay xs)).length = xs.length := by rw [eread_elay xs h]; simp
theorem eerr_iff (xs : List Int) : eerr xs = 0 ↔ ∀ p ∈ eread xs, p.2 = 0 := by
  constructor
  · intro h p hp; exact ferr_zero h _ (List.mem_map_of_mem hp)
  · intro h; exact ferr_all (by intro e he; simp only [List.mem_map] at he; obtain ⟨p, hp, rfl⟩ := he; exact h p hp)
theorem ebad_iff (xs : List Int) : ebad xs = 0 ↔ ∀ p ∈ eread xs, p.2 = 0 := by
  rw [ebad, List.length_eq_zero_iff, List.filter_eq_nil_iff]
  simp [bad]
theorem eread_sc {xs : List Int} : Rg 0 256 xs → ∀ p ∈ eread xs, p.2 = 0 → scB p.1 = true := by
  refine eread_ind (fun xs => Rg 0 256 xs → ∀ p ∈ eread xs, p.2 = 0 → scB p.1 = true) (by intro _ p hp; simp [eread_nil] at hp) ?_ _ xs (Nat.le_refl _)
  intro x r ih hg p hp h0
  rw [eread_cons] at hp
  rcases List.mem_cons.1 hp with rfl | hp
  · exact (takeR_good hg h0).1
  · exact ih (hg.drop _) p hp h0
theorem etext_sc {xs : List Int} (hg : Rg 0 256 xs) : allSc (etext xs) = true := by
  rw [allSc, List.all_eq_true]
  intro y hy
  simp only [etext, List.mem_map] at hy
  obtain ⟨p, hp, rfl⟩ := hy
  unfold rd
  split
  · rename_i h; exact eread_sc hg p hp h
  · decide
theorem elay_etext {xs : List Int} : Rg 0 256 xs → (∀ p ∈ eread xs, p.2 = 0) → elay (etext xs) = xs := by
  refine eread_ind (fun xs => Rg 0 256 xs → (∀ p ∈ eread xs, p.2 = 0) → elay (etext xs) = xs) (by intro _ _; simp [etext, eread_nil, elay]) ?_ _ xs (Nat.le_refl _)
  intro x r ih hg h
  have h0 : (takeR (x :: r)).2.2 = 0 := h ((takeR (x :: r)).1, (takeR (x :: r)).2.2) (by rw [eread_cons]; exact List.mem_cons_self)
  obtain ⟨_, h2, h3, _⟩ := takeR_good hg h0
  have ih' := ih (hg.drop _) (fun p hp => h p (by rw [eread_cons]; exact List.mem_cons_of_mem _ hp))
  rw [etext, eread_cons, List.map_cons, elay_cons]
  rw [show rd ((takeR (x :: r)).1, (takeR (x :: r)).2.2) = (takeR (x :: r)).1 by simp [rd, h0], h2]
  rw [etext] at ih'
  rw [ih', List.take_append_drop]
theorem etext_len (xs : List Int) : (etext xs).length = (eread xs).length := by simp [etext]
theorem eread_pos (xs : List Int) : 0 < (eread xs).length ↔ 0 < xs.length := by
  cases xs with
  | nil => simp [eread_nil]
  | cons x r => rw [eread_cons]; simp
end Go.Proofs.YtponfaglflmnkaaDoor
namespace Go.Proofs.YtponfaglflmnkaaDoor
/-- The octet of a sign that latin nine has. -/
def oct9 (c : Int) : Int :=
  if c = 8364 then 164 else if c = 352 then 166 else if c = 353 then 168 else if c = 381 then 180 else if c = 382 then 184 else if c = 338 then 188 else if c = 339 then 189 else if c = 376 then 190 else c
theorem oct9_sign : ∀ n : Fin 256, oct9 (sign9 n.val) = n.val := by decide +kernel
theorem oct9_of {c : Int} (h : nineB c = true) : 0 ≤ oct9 c ∧ oct9 c < 256 ∧ sign9 (oct9 c) = c := by
  obtain ⟨n, hn, rfl⟩ := nine_back h
  have := oct9_sign ⟨n, hn⟩
  simp only at this
  rw [this]
  exact ⟨by omega, by omega, rfl⟩
theorem oct9_at {n : Nat} (hn : n < 256) : oct9 (sign9 n) = n := oct9_sign ⟨n, hn⟩
/-- The octet of a sign that the charset n (no UTF-8) has; the sign of an octet. -/
def oct1 (n c : Int) : Int := if n = 3 then oct9 c else if n = 4 then (wput c).1 else c
def sgn (n x : Int) : Int := if n = 1 then (if x < 128 then x else 65533) else if n = 3 then sign9 x else if n = 4 then wsign x else x
theorem oct1_of {n c : Int} (h1 : 1 ≤ n) (h4 : n ≤ 4) (h : hasB n c = true) : 0 ≤ oct1 n c ∧ oct1 n c < 256 ∧ sgn n (oct1 n c) = c := by
  have hc : n = 1 ∨ n = 2 ∨ n = 3 ∨ n = 4 := by omega
  rcases hc with rfl | rfl | rfl | rfl
  · have := of_decide_eq_true (show decide (0 ≤ c ∧ c < 128) = true from h)
    have e : oct1 1 c = c := rfl
    rw [e]
    exact ⟨by omega, by omega, by show (if c < 128 then c else 65533) = c; rw [if_pos this.2]⟩
  · have := of_decide_eq_true (show decide (0 ≤ c ∧ c < 256) = true from h)
    have e : oct1 2 c = c := rfl
    rw [e]
    exact ⟨by omega, by omega, rfl⟩
  · exact oct9_of (show nineB c = true from h)
  · have := wput_true (show (wput c).2 = true from h)
    exact ⟨this.1, this.2.1, this.2.2.1⟩
def coct (n c : Int) : List Int := if n = 5 then octs c else [oct1 n c]
def coctL (n c : Int) : List Int := if hasB n c then coct n c else []
def claL (n : Int) (t : List Int) : List Int := t.flatMap (coct n)
def claY (n : Int) (t : List Int) : List Int := if 1 ≤ n ∧ n ≤ 5 ∧ t.all (hasB n) = true then claL n t else []
def claE (n : Int) (t : List Int) : Int := if 1 ≤ n ∧ n ≤ 5 then (if t.all (hasB n) = true then 0 else 9) else 10
def creadL (n : Int) (s : List Int) : List Int := if n = 5 then etext s else s.map (sgn n)
theorem coct_len (n c : Int) : (coct n c).length ≤ 4 := by
  unfold coct; split
  · exact octs_len4 c
  · simp
theorem claL_len (n : Int) (t : List Int) : (claL n t).length ≤ 4 * t.length := by
  induction t with
  | nil => simp [claL]
  | cons x r ih =>
    have := coct_len n x
    rw [claL, List.flatMap_cons, List.length_append, List.length_cons]
    rw [claL] at ih; omega
theorem claY_len (n : Int) (t : List Int) : (claY n t).length ≤ 4 * t.length := by
  have := claL_len n t
  unfold claY; split
  · exact this
  · simp
theorem claL_snoc {n : Int} {t : List Int} {k : Nat} {x : Int} (h : t[k]? = some x) : claL n (t.take (k + 1)) = claL n (t.take k) ++ coct n x := by
  rw [List.take_add_one, h, claL, List.flatMap_append]; simp [claL]
theorem has_sc {c : Int} : hasB 5 c = scB c := rfl
theorem all_has5 (t : List Int) : t.all (hasB 5) = allSc t := rfl
theorem coct_rng {n c : Int} (h1 : 1 ≤ n) (h5 : n ≤ 5) (h : hasB n c = true) : Rg 0 256 (coct n c) := by
  unfold coct; split
  · exact octs_rng c
  · intro x hx
    rw [List.mem_singleton.1 hx]
    have := oct1_of h1 (by omega) h
    exact ⟨this.1, this.2.1⟩
theorem claY_rng (n : Int) (t : List Int) : Rg 0 256 (claY n t) := by
  unfold claY; split
  · rename_i h
    intro x hx
    obtain ⟨c, hc, hx⟩ := List.mem_flatMap.1 hx
    exact coct_rng h.1 h.2.1 (List.all_eq_true.1 h.2.2 c hc) x hx
  · intro x hx; cases hx
/-- What is laid is read. -/
theorem cread_lay {n : Int} {t : List Int} (h1 : 1 ≤ n) (h5 : n ≤ 5) (h : t.all (hasB n) = true) : creadL n (claL n t) = t := by
  rcases Decidable.em (n = 5) with rfl | hn
  · rw [creadL, if_pos rfl, claL]
    exact etext_elay (by rw [← all_has5]; exact h)
  · rw [creadL, if_neg hn, claL]
    induction t with
    | nil => rfl
    | cons c r ih =>
      rw [List.all_cons, Bool.and_eq_true] at h
      rw [List.flatMap_cons, List.map_append, ih h.2, coct, if_neg hn, List.map_cons, List.map_nil, (oct1_of h1 (by omega) h.1).2.2]; rfl
theorem sgn_sc {n x : Int} (h0 : 0 ≤ x) (h1 : x < 256) : scB (sgn n x) = true := by
  have k9 : ∀ m : Fin 256, scB (sign9 m.val) = true := by decide +kernel
  have kw : ∀ m : Fin 256, scB (wsign m.val) = true := by decide +kernel
  obtain ⟨m, rfl⟩ : ∃ m : Nat, x = m := ⟨x.toNat, by omega⟩
  unfold sgn
  split
  · split
    · exact scB_iff.2 (by omega)
    · decide
  · split
    · exact k9 ⟨m, by omega⟩
    · split
      · exact kw ⟨m, by omega⟩
      · exact scB_iff.2 (by omega)
theorem cread_sc {n : Int} {s : List Int} (hg : Rg 0 256 s) : allSc (creadL n s) = true := by
  unfold creadL; split
  · exact etext_sc hg
  · refine List.all_eq_true.2 fun c hc => ?_
    obtain ⟨x, hx, rfl⟩ := List.mem_map.1 hc
    exact sgn_sc (hg x hx).1 (hg x hx).2
theorem cread_len (n : Int) (s : List Int) : (creadL n s).length ≤ s.length ∧ (n ≠ 5 → (creadL n s).length = s.length) := by
  unfold creadL; split
  · exact ⟨by rw [etext_len]; exact eread_len s, fun h => absurd (by assumption) h⟩
  · rw [List.length_map]; exact ⟨Nat.le_refl _, fun _ => rfl⟩
end Go.Proofs.YtponfaglflmnkaaDoor
