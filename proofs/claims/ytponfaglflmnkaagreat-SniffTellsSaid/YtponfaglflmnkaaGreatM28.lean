/- Plain: guesses at what octets are. · Plain: laws of guesses. (laid together by program out of single texts). -/
import Derived.Test.YtponfaglflmnkaaGreatM8
import Derived.Test.YtponfaglflmnkaaGreatM20
import Derived.Test.YtponfaglflmnkaaGreatM27
namespace Go.Proofs.YtponfaglflmnkaaGreat
def hiN (xs : List Int) : Nat := xs.countP fun c => decide (128 ≤ c)
def ctB (c : Int) : Bool := isCtl c && (c != 9 && (c != 10 && c != 13))
def ctN (xs : List Int) : Nat := xs.countP ctB
def mk8 (xs : List Int) : Bool := decide (3 ≤ xs.length) && decide (xs.take 3 = [239, 187, 191])
def midB (c : Int) : Bool := decide (128 ≤ c ∧ c < 160)
def latB (c : Int) : Bool := !(c == 0 || midB c)
def winB (c : Int) : Bool := !(c == 0 || (midB c && !cexB 4 [c]))
def guessN (xs : List Int) : Int :=
  if 0 < markN xs then 1 else if mk8 xs = true then 2 else if ctN xs = 0 ∧ hiN xs = 0 then 3 else if ctN xs = 0 ∧ ebad xs = 0 then 4 else if xs.all latB = true then 5 else if xs.all winB = true then 6 else 7
def guessT (xs : List Int) : List Int :=
  if guessN xs = 1 then autoT xs else if guessN xs = 2 then etext (xs.drop 3) else if guessN xs = 3 then creadL 1 xs else if guessN xs = 4 then creadL 5 xs else if guessN xs = 6 then creadL 4 xs else creadL 2 xs
theorem cnt_snoc {p : Int → Bool} {xs : List Int} {k : Nat} {x : Int} (h : xs[k]? = some x) : (xs.take (k + 1)).countP p = (xs.take k).countP p + (if p x then 1 else 0) := by
  rw [List.take_add_one, h]
  simp [List.countP_append, List.countP_cons]
theorem ctl_split : ∀ xs : List Int, xs.countP isCtl = ctN xs + xs.count 9 + xs.count 13 + xs.count 10
  | [] => rfl
  | x :: xs => by
    have ih := ctl_split xs
    unfold ctN at ih ⊢
    simp only [List.countP_cons, List.count_cons, ih]
    rcases (by omega : x = 9 ∨ x = 10 ∨ x = 13 ∨ (x ≠ 9 ∧ x ≠ 10 ∧ x ≠ 13)) with rfl | rfl | rfl | ⟨h1, h2, h3⟩
    · have e1 : ctB 9 = false := by decide
      have e2 : isCtl 9 = true := by decide
      simp [e1, e2]; omega
    · have e1 : ctB 10 = false := by decide
      have e2 : isCtl 10 = true := by decide
      simp [e1, e2]; omega
    · have e1 : ctB 13 = false := by decide
      have e2 : isCtl 13 = true := by decide
      simp [e1, e2]; omega
    · have e1 : ctB x = isCtl x := by simp [ctB, h1, h2, h3]
      simp [e1, h1, h2, h3]; omega
theorem count_le_len (c : Int) (xs : List Int) : xs.count c ≤ xs.length := List.count_le_length
theorem win_fact : ∀ n : Fin 32, cexB 4 [128 + (n.val : Int)] = !(sgn 4 (128 + (n.val : Int)) == 65533) := by decide +kernel
theorem win_ex {c : Int} (h0 : 128 ≤ c) (h1 : c < 160) : cexB 4 [c] = !(sgn 4 c == 65533) := by
  have := win_fact ⟨(c - 128).toNat, by omega⟩
  have e : 128 + (((c - 128).toNat : Nat) : Int) = c := by omega
  simp only [e] at this
  exact this
end Go.Proofs.YtponfaglflmnkaaGreat
namespace Go.Proofs.YtponfaglflmnkaaGreat
set_option maxHeartbeats 2000000
theorem ebad_one {x : Int} (h2 : (takeR [x]).2.2 ≠ 0) : ebad [x] ≠ 0 := fun h9 =>
  h2 ((ebad_iff [x]).1 h9 ((takeR [x]).1, (takeR [x]).2.2) (by rw [eread_cons]; simp))
theorem guess_233 : guessN [233] = 5 := by
  rw [guessN, if_neg (by decide +kernel), if_neg (by decide +kernel), if_neg (by decide +kernel), if_neg (fun h => ebad_one (by decide +kernel) h.2), if_pos (by decide +kernel)]
theorem guess_128 : guessN [128] = 6 := by
  rw [guessN, if_neg (by decide +kernel), if_neg (by decide +kernel), if_neg (by decide +kernel), if_neg (fun h => ebad_one (by decide +kernel) h.2), if_neg (by decide +kernel), if_pos (by decide +kernel)]
theorem guess_0 : guessN [0] = 7 := by
  rw [guessN, if_neg (by decide +kernel), if_neg (by decide +kernel), if_neg (by decide +kernel), if_neg (fun h => absurd h.1 (by decide +kernel)), if_neg (by decide +kernel), if_neg (by decide +kernel)]
theorem guessT_len (xs : List Int) : (guessT xs).length ≤ xs.length + 1 := by
  have h1 := autoT_len xs
  have h2 := etext_len (xs.drop 3)
  have h3 := eread_len (xs.drop 3)
  rw [List.length_drop] at h3
  have h4 := (cread_len 1 xs).1
  have h5 := (cread_len 5 xs).1
  have h6 := (cread_len 4 xs).1
  have h7 := (cread_len 2 xs).1
  unfold guessT
  split
  · omega
  · split
    · omega
    · split
      · omega
      · split
        · omega
        · split <;> omega
theorem octs_low (c : Int) : ∀ x ∈ octs c, x < 248 := by
  unfold octs
  split
  · rename_i h
    have := scB_iff.1 h
    split
    · intro y hy; simp at hy; omega
    · split
      · intro y hy; simp at hy; omega
      · split
        · intro y hy; simp at hy; omega
        · intro y hy; simp at hy; omega
  · intro y hy; simp at hy
theorem elay_low : ∀ (ts : List Int), ∀ x ∈ elay ts, x < 248
  | [], x, hx => by simp [elay] at hx
  | c :: ts, x, hx => by
    rw [elay_cons] at hx
    rcases List.mem_append.1 hx with h | h
    · exact octs_low c x h
    · exact elay_low ts x h
theorem mark_low {xs : List Int} (h : ∀ x ∈ xs, x < 248) : markN xs = 0 := by
  have k : ∀ (n : Nat) (l : List Int) (y : Int), y ∈ l → 248 ≤ y → decide (xs.take n = l) = false := fun n l y hy hb => decide_eq_false (fun he => by
    have := h y (List.mem_of_mem_take (by rw [he]; exact hy : y ∈ xs.take n))
    omega)
  rw [markN, mk4b, mk4l, mk2b, mk2l, k 4 _ 254 (by simp) (by omega), k 4 _ 255 (by simp) (by omega), k 2 _ 254 (by simp) (by omega), k 2 _ 255 (by simp) (by omega)]
  rfl
theorem mark_m (xs : List Int) : markN (239 :: 187 :: 191 :: xs) = 0 := by
  rw [markN, mk4b, mk4l, mk2b, mk2l]
  simp [mN]
theorem octs_ff : octs 65279 = [239, 187, 191] := by decide
theorem mk8_elay {c : Int} {ts : List Int} (hs : allSc (c :: ts) = true) (hc : c ≠ 65279) : mk8 (elay (c :: ts)) = false := by
  rw [mk8, Bool.and_eq_false_iff]
  refine .inr (decide_eq_false fun he => hc ?_)
  have hsc : scB c = true := List.all_eq_true.1 hs c (by simp)
  have h1 := takeR_octs hsc (elay ts)
  rw [← elay_cons] at h1
  have h2 : elay (c :: ts) = octs 65279 ++ (elay (c :: ts)).drop 3 := by
    rw [octs_ff, ← he, List.take_append_drop]
  have h3 := takeR_octs (c := 65279) (by decide) ((elay (c :: ts)).drop 3)
  rw [← h2, h1] at h3
  exact (congrArg Prod.fst h3)
theorem elay_asc : ∀ (ts : List Int), allSc ts = true → (∀ x ∈ elay ts, x < 128) → elay ts = ts
  | [], _, _ => rfl
  | c :: ts, hs, h => by
    have hsc : scB c = true := List.all_eq_true.1 hs c (by simp)
    rw [elay_cons] at h ⊢
    rw [elay_asc ts (List.all_eq_true.2 fun x hx => List.all_eq_true.1 hs x (by simp [hx])) (fun x hx => h x (by simp [hx]))]
    have hc : octs c = [c] := by
      have hb := scB_iff.1 hsc
      have h2 : ∀ x ∈ octs c, x < 128 := fun x hx => h x (by simp [hx])
      unfold octs at h2 ⊢
      rw [if_pos hsc] at h2 ⊢
      split
      · rfl
      · rename_i h3
        rw [if_neg h3] at h2
        split at h2
        · have := h2 _ (List.mem_cons_self); omega
        · split at h2
          · have := h2 _ (List.mem_cons_self); omega
          · have := h2 _ (List.mem_cons_self); omega
    rw [hc]; rfl
/-- A text that is laid, with no other controls: the guess, and what is read by it. -/
theorem tells {ts : List Int} (hs : allSc ts = true) (h0 : ts[0]? ≠ some 65279) (hc : ctN (elay ts) = 0) :
    (guessN (elay ts) = 3 ∨ guessN (elay ts) = 4) ∧ guessT (elay ts) = ts := by
  have hm := mark_low (elay_low ts)
  have hk : mk8 (elay ts) = false := by
    cases ts with
    | nil => decide
    | cons c ts => exact mk8_elay hs (fun h9 => h0 (by rw [h9]; rfl))
  have hb := ebad_elay hs
  by_cases hh : hiN (elay ts) = 0
  · have hg : guessN (elay ts) = 3 := by rw [guessN, if_neg (by omega), if_neg (by rw [hk]; decide), if_pos ⟨hc, hh⟩]
    refine ⟨.inl hg, ?_⟩
    have hl : ∀ x ∈ elay ts, x < 128 := fun x hx => by
      have := List.countP_eq_zero.1 hh x hx
      simp at this
      exact this
    have he := elay_asc ts hs hl
    rw [guessT, hg, if_neg (by decide), if_neg (by decide), if_pos rfl, he, creadL, if_neg (by decide)]
    rw [he] at hl
    conv => rhs; rw [← List.map_id ts]
    refine List.map_congr_left fun x hx => ?_
    show (if x < 128 then x else 65533) = x
    rw [if_pos (hl x hx)]
  · have hg : guessN (elay ts) = 4 := by rw [guessN, if_neg (by omega), if_neg (by rw [hk]; decide), if_neg (fun h => hh h.2), if_pos ⟨hc, hb⟩]
    refine ⟨.inr hg, ?_⟩
    rw [guessT, hg, if_neg (by decide), if_neg (by decide), if_neg (by decide), if_pos rfl, creadL, if_pos rfl, etext_elay hs]
theorem tells_m {ts : List Int} (hs : allSc ts = true) : guessN (239 :: 187 :: 191 :: elay ts) = 2 ∧ guessT (239 :: 187 :: 191 :: elay ts) = ts := by
  have hg : guessN (239 :: 187 :: 191 :: elay ts) = 2 := by
    rw [guessN, if_neg (by rw [mark_m]; decide), if_pos (by simp [mk8])]
  refine ⟨hg, ?_⟩
  rw [guessT, hg, if_neg (by decide), if_pos rfl]
  exact etext_elay hs
end Go.Proofs.YtponfaglflmnkaaGreat
