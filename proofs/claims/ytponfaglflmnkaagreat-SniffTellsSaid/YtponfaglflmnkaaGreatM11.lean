/- Walks: wide texts: a window reversed in place. (laid together by program out of single texts). -/
import Derived.ChangeAlike
import Derived.RegionTactic
import Derived.Test.YtponfaglflmnkaaGreatM10
namespace Go.Proofs.YtponfaglflmnkaaGreat
open Go.RowKit
set_option maxHeartbeats 1000000
theorem app_get {P S : List Int} {l : List Int} {j : Nat} (h : j < l.length) : (P ++ (l ++ S))[P.length + j]? = l[j]? := by
  rw [List.getElem?_append_right (by omega), Nat.add_sub_cancel_left, List.getElem?_append_left h]
theorem app_set {P S : List Int} {l : List Int} {j : Nat} (h : j < l.length) (x : Int) : (P ++ (l ++ S)).set (P.length + j) x = P ++ (l.set j x ++ S) := by
  rw [List.set_append_right _ _ (by omega), Nat.add_sub_cancel_left, List.set_append_left _ _ h]
/-- The row that the call owns holds xs; nothing else is written. -/
def RevQ (B g N cap : Nat) (w : World) (xs : List Int) (w' : World) : Prop := Own B 5 w' (.slice (some ⟨g, 0, none⟩) N cap) (ints .u8 xs) ∧ w.grownBy w' (some g)
theorem RevQ.drew {B g N cap : Nat} {w w' : World} {xs : List Int} (h : RevQ B g N cap w xs w') : RevQ B g N cap w xs w'.drew := ⟨h.1.drew, grown_trans h.2 (grown_drew _ _)⟩
theorem RevQ.set {B g N cap : Nat} {w w' : World} {xs : List Int} (h : RevQ B g N cap w xs w') (j : Nat) (x : Int) : RevQ B g N cap w (xs.set j x) (w'.setCell ⟨g, j, none⟩ (.int .u8 x)) :=
  ⟨by have := h.1.set j (.int .u8 x) rfl; rwa [ints_set] at this, grown_trans h.2 (grown_set _ _ _ _)⟩
theorem RevQ.cell {B g N cap : Nat} {w w' : World} {xs : List Int} (h : RevQ B g N cap w xs w') {j : Nat} {x : Int} (hx : xs[j]? = some x) : w'.cell? ⟨g, j, none⟩ = some (.int .u8 x) := h.1.cell (by rw [ints_get, hx]; rfl)
theorem set2 (P S : List Int) (x y : Int) : ((P ++ ([x, y] ++ S)).set P.length y).set (P.length + 1) x = P ++ ([y, x] ++ S) := by
  have h0 := app_set (P := P) (S := S) (l := [x, y]) (j := 0) (by simp) y
  rw [Nat.add_zero] at h0
  rw [h0, app_set (by simp)]; rfl
theorem set4a (P S : List Int) (x y z t : Int) : ((P ++ ([x, y, z, t] ++ S)).set P.length t).set (P.length + 3) x = P ++ ([t, y, z, x] ++ S) := by
  have h0 := app_set (P := P) (S := S) (l := [x, y, z, t]) (j := 0) (by simp) t
  rw [Nat.add_zero] at h0
  rw [h0, app_set (by simp)]; rfl
theorem set4b (P S : List Int) (x y z t : Int) : ((P ++ ([t, y, z, x] ++ S)).set (P.length + 1) z).set (P.length + 2) y = P ++ ([t, z, y, x] ++ S) := by
  rw [app_set (by simp), app_set (by simp)]; rfl
set_option maxRecDepth 100000 in
theorem rev2_any (w : World) (B g N cap off c : Nat) (P S : List Int) (x y : Int) (h : Own B 5 w (.slice (some ⟨g, 0, none⟩) N cap) (ints .u8 (P ++ ([x, y] ++ S)))) (ho : off = P.length) :
    Calls Tryz.prog 111 #[.slice (some ⟨g, off, none⟩) 2 c] w fun e w' => (∃ v, e = .returned v) ∧ RevQ B g N cap w (P ++ ([y, x] ++ S)) w' := by
  subst ho
  have c0 : w.cell? ⟨g, P.length, none⟩ = some (.int .u8 x) := h.cell (by rw [ints_get, show P.length = P.length + 0 from rfl, app_get (by simp)]; rfl)
  have c1 : w.cell? ⟨g, P.length + 1, none⟩ = some (.int .u8 y) := h.cell (by rw [ints_get, app_get (by simp)]; rfl)
  have f0 := fun j => h.frozen j
  have hset := set2 P S x y
  have HO : Hid (RevQ B g N cap w (P ++ ([x, y] ++ S)) w) := ⟨h, ⟨rfl, rfl, rfl, Nat.le_refl _, fun _ _ _ => rfl⟩⟩
  clear h
  generalize P ++ ([x, y] ++ S) = A at *
  generalize P ++ ([y, x] ++ S) = Z at *
  have HS := Lib.hid hset; clear hset
  go_enter Tryz.func111, Tryz.ntmps111
  go_wp2
  go_loopw [2, 3] (fun i j wr => (i = .int .i64 0 ∧ j = .int .i64 1 ∧ wr = w) ∨ (i = .int .i64 1 ∧ j = .int .i64 0 ∧ RevQ B g N cap w Z wr)) (fun i _ _ => 2 - (intOf i).toNat)
  case atStart => exact .inl ⟨rfl, rfl, rfl⟩
  case round =>
    rcases hrel with ⟨rfl, rfl, hw⟩ | ⟨rfl, rfl, h2⟩
    · obtain rfl := hw.symm
      go_wp2_with fail
      go_region
      have hq := ((HO.out.set P.length y).set (P.length + 1) x).drew
      rw [HS.out] at hq
      go_wp2
      go_roundw
      case rel => exact .inr ⟨rfl, rfl, hq⟩
      case measure => simp [intOf]
    · go_wp2
      first | go_end0 | refine bodyPost_ret (results_none rfl _ _ _) rfl ?_
      exact ⟨⟨_, rfl⟩, h2⟩
set_option maxRecDepth 100000 in
theorem rev4_any (w : World) (B g N cap off c : Nat) (P S : List Int) (x y z t : Int) (h : Own B 5 w (.slice (some ⟨g, 0, none⟩) N cap) (ints .u8 (P ++ ([x, y, z, t] ++ S)))) (ho : off = P.length) :
    Calls Tryz.prog 111 #[.slice (some ⟨g, off, none⟩) 4 c] w fun e w' => (∃ v, e = .returned v) ∧ RevQ B g N cap w (P ++ ([t, z, y, x] ++ S)) w' := by
  subst ho
  have c0 : w.cell? ⟨g, P.length, none⟩ = some (.int .u8 x) := h.cell (by rw [ints_get, show P.length = P.length + 0 from rfl, app_get (by simp)]; rfl)
  have c1 : w.cell? ⟨g, P.length + 3, none⟩ = some (.int .u8 t) := h.cell (by rw [ints_get, app_get (by simp)]; rfl)
  have f0 := fun j => h.frozen j
  have hset := set4a P S x y z t
  have hset2 := set4b P S x y z t
  have HO : Hid (RevQ B g N cap w (P ++ ([x, y, z, t] ++ S)) w) := ⟨h, ⟨rfl, rfl, rfl, Nat.le_refl _, fun _ _ _ => rfl⟩⟩
  have g1 : (P ++ ([t, y, z, x] ++ S))[P.length + 1]? = some y := by rw [app_get (by simp)]; rfl
  have g2 : (P ++ ([t, y, z, x] ++ S))[P.length + 2]? = some z := by rw [app_get (by simp)]; rfl
  clear h
  generalize P ++ ([x, y, z, t] ++ S) = A at *
  generalize P ++ ([t, y, z, x] ++ S) = M at *
  generalize P ++ ([t, z, y, x] ++ S) = Z at *
  have HS := Lib.hid hset; have HS2 := Lib.hid hset2; have G1 := Lib.hid g1; have G2 := Lib.hid g2
  clear hset hset2 g1 g2
  go_enter Tryz.func111, Tryz.ntmps111
  go_wp2
  go_loopw [2, 3] (fun i j wr => (i = .int .i64 0 ∧ j = .int .i64 3 ∧ wr = w) ∨ (i = .int .i64 1 ∧ j = .int .i64 2 ∧ RevQ B g N cap w M wr) ∨ (i = .int .i64 2 ∧ j = .int .i64 1 ∧ RevQ B g N cap w Z wr)) (fun i _ _ => 3 - (intOf i).toNat)
  case atStart => exact .inl ⟨rfl, rfl, rfl⟩
  case round =>
    rcases hrel with ⟨rfl, rfl, hw⟩ | ⟨rfl, rfl, h2⟩ | ⟨rfl, rfl, h2⟩
    · obtain rfl := hw.symm
      go_wp2_with fail
      go_region
      have hq := ((HO.out.set P.length t).set (P.length + 3) x).drew
      rw [HS.out] at hq
      go_wp2
      go_roundw
      case rel => exact .inr (.inl ⟨rfl, rfl, hq⟩)
      case measure => simp [intOf]
    · have d1 := h2.cell G1.out
      have d2 := h2.cell G2.out
      have f1 := fun j => h2.1.frozen j
      have H2 := Lib.hid h2
      clear h2
      go_wp2_with fail
      go_region
      have hq := ((H2.out.set (P.length + 1) z).set (P.length + 2) y).drew
      rw [HS2.out] at hq
      go_wp2
      go_roundw
      case rel => exact .inr (.inr ⟨rfl, rfl, hq⟩)
      case measure => simp [intOf]
    · go_wp2
      first | go_end0 | refine bodyPost_ret (results_none rfl _ _ _) rfl ?_
      exact ⟨⟨_, rfl⟩, h2⟩
end Go.Proofs.YtponfaglflmnkaaGreat
