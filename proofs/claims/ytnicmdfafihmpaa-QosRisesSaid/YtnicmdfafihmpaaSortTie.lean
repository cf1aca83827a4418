/- The printed functions of the library's stable sort are the plain ones (printed by a program). -/
import Derived.Test.YtnicmdfafihmpaaSort3
import Derived.Test.YtnicmdfafihmpaaPvX7
namespace Go.Proofs.Ytnicmdfafihmpaa
open Go.Pv Go.Pv.Srt

abbrev sz_f29 : Entry := (Entry.mk (⟨#[]⟩ : ByteArray) 0 0 0)
theorem q_ins1_f29 (n0 : Nat) (a b i : Int) : ∀ (k : Nat) (v : List Entry) (j : Int), l_slices_insertionSortCmpFunc_b1 n0 a b i k v j = ins1 sz_f29 s_qos_ranked_1 a k v j
  | 0, _, _ => rfl
  | k + 1, v, j => by
    rw [l_slices_insertionSortCmpFunc_b1, ins1, q_ins1_f29 n0 a b i k]
    rfl
theorem q_ins0_f29 (n0 : Nat) (a b : Int) : ∀ (k : Nat) (i : Int) (v : List Entry), l_slices_insertionSortCmpFunc_b0 n0 a b k i v = ins0 sz_f29 s_qos_ranked_1 a b k i v
  | 0, _, _ => rfl
  | k + 1, i, v => by
    rw [l_slices_insertionSortCmpFunc_b0, ins0, q_ins0_f29 n0 a b k, q_ins1_f29]
theorem q_ins_f29 (n0 : Nat) (d : List Entry) (a b : Int) : s_slices_insertionSortCmpFunc_f29 n0 d a b = ins sz_f29 s_qos_ranked_1 d a b := q_ins0_f29 n0 a b _ _ _
theorem q_swr1_f29 (n0 : Nat) (p q n : Int) : ∀ (k : Nat) (v : List Entry) (i : Int), l_slices_swapRangeCmpFunc_b0 n0 p q n k v i = swr1 sz_f29 p q n k v i
  | 0, _, _ => rfl
  | k + 1, v, i => by
    rw [l_slices_swapRangeCmpFunc_b0, swr1, q_swr1_f29 n0 p q n k]
    rfl
theorem q_swr_f29 (n0 : Nat) (d : List Entry) (p q n : Int) : s_slices_swapRangeCmpFunc_f29 n0 d p q n = swr sz_f29 d p q n := q_swr1_f29 n0 p q n _ _ _
theorem q_rot1_f29 (n0 : Nat) (m : Int) : ∀ (k : Nat) (i j : Int) (v : List Entry), l_slices_rotateCmpFunc_b0 n0 m k i j v = rot1 sz_f29 m k i j v
  | 0, _, _, _ => rfl
  | k + 1, i, j, v => by
    rw [l_slices_rotateCmpFunc_b0, rot1, q_rot1_f29 n0 m k, q_rot1_f29 n0 m k, q_swr_f29, q_swr_f29]
theorem q_rot_f29 (n0 : Nat) (d : List Entry) (a m b : Int) : s_slices_rotateCmpFunc_f29 n0 d a m b = rot sz_f29 d a m b := by
  unfold s_slices_rotateCmpFunc_f29 rot
  rw [q_rot1_f29, q_swr_f29]
theorem q_bs0_f29 (n0 : Nat) (d : List Entry) (a m b : Int) : ∀ (k : Nat) (i j : Int), l_slices_symMergeCmpFunc_b0 n0 d a m b k i j = bs (fun h => decide (s_qos_ranked_1 (gt sz_f29 d h) (gt sz_f29 d a) < 0)) k i j
  | 0, _, _ => rfl
  | k + 1, i, j => by
    rw [l_slices_symMergeCmpFunc_b0, bs, q_bs0_f29 n0 d a m b k, q_bs0_f29 n0 d a m b k]
    rfl
theorem q_mv1_f29 (n0 : Nat) : ∀ (k : Nat) (t : Int) (v : List Entry) (i : Int), l_slices_symMergeCmpFunc_b1 n0 k t v i = mv1 sz_f29 k t v i
  | 0, _, _, _ => rfl
  | k + 1, t, v, i => by
    rw [l_slices_symMergeCmpFunc_b1, mv1, q_mv1_f29 n0 k]
    rfl
theorem q_bs2_f29 (n0 : Nat) (d : List Entry) (a m : Int) : ∀ (k : Nat) (j i : Int), l_slices_symMergeCmpFunc_b2 n0 d a m k j i = bs (fun h => !decide (s_qos_ranked_1 (gt sz_f29 d m) (gt sz_f29 d h) < 0)) k i j
  | 0, _, _ => rfl
  | k + 1, j, i => by
    rw [l_slices_symMergeCmpFunc_b2, bs, q_bs2_f29 n0 d a m k, q_bs2_f29 n0 d a m k]
    cases decide (i < j) with
    | false => rfl
    | true =>
      show (bif decide (s_qos_ranked_1 (gt sz_f29 d m) (gt sz_f29 d ((i + j) / 2)) < 0) then _ else _) = bif !decide (s_qos_ranked_1 (gt sz_f29 d m) (gt sz_f29 d ((i + j) / 2)) < 0) then _ else _
      cases decide (s_qos_ranked_1 (gt sz_f29 d m) (gt sz_f29 d ((i + j) / 2)) < 0) <;> rfl
theorem q_mv3_f29 (n0 : Nat) : ∀ (k : Nat) (t : Int) (v : List Entry) (i : Int), l_slices_symMergeCmpFunc_b3 n0 k t v i = mv3 sz_f29 k t v i
  | 0, _, _, _ => rfl
  | k + 1, t, v, i => by
    rw [l_slices_symMergeCmpFunc_b3, mv3, q_mv3_f29 n0 k]
    rfl
theorem q_bs4_f29 (n0 : Nat) (d : List Entry) (a m b mid n p : Int) : ∀ (k : Nat) (i j : Int), l_slices_symMergeCmpFunc_b4 n0 d a m b k mid n i j p = (mid, n, bs (sg sz_f29 s_qos_ranked_1 d p) k i j)
  | 0, _, _ => rfl
  | k + 1, i, j => by
    rw [l_slices_symMergeCmpFunc_b4, bs, q_bs4_f29 n0 d a m b mid n p k, q_bs4_f29 n0 d a m b mid n p k]
    cases decide (i < j) with
    | false => rfl
    | true =>
      show (bif decide (s_qos_ranked_1 (gt sz_f29 d (p - (i + j) / 2)) (gt sz_f29 d ((i + j) / 2)) < 0) then _ else _) = (mid, n, bif !decide (s_qos_ranked_1 (gt sz_f29 d (p - (i + j) / 2)) (gt sz_f29 d ((i + j) / 2)) < 0) then _ else _)
      cases decide (s_qos_ranked_1 (gt sz_f29 d (p - (i + j) / 2)) (gt sz_f29 d ((i + j) / 2)) < 0) <;> rfl
theorem q_sym_f29 (n0 : Nat) : ∀ (k : Nat) (d : List Entry) (a m b : Int), s_slices_symMergeCmpFunc_f29 k n0 d a m b = sym sz_f29 s_qos_ranked_1 k d a m b
  | 0, _, _, _, _ => rfl
  | k + 1, d, a, m, b => by
    rw [s_slices_symMergeCmpFunc_f29, sym]
    simp only [q_sym_f29 n0 k, q_bs0_f29, q_mv1_f29, q_bs2_f29, q_mv3_f29, q_bs4_f29, q_rot_f29]
    cases (m - a == 1) with
    | true => rfl
    | false =>
      cases (b - m == 1) with
      | true => rfl
      | false =>
        simp only [cond_false]
        unfold sst
        cases decide ((a + b) / 2 < m) with
        | true =>
          simp only [cond_true]
          generalize bs (sg sz_f29 s_qos_ranked_1 d ((a + b) / 2 + m - 1)) (((a + b) / 2 - ((a + b) / 2 + m - b)).toNat + 1) ((a + b) / 2 + m - b) ((a + b) / 2) = st
          unfold sym2
          generalize (a + b) / 2 = mid
          cases decide (st < m) <;> cases decide (m < mid + m - st) <;> cases decide (a < st) <;> cases decide (st < mid) <;> cases decide (mid < mid + m - st) <;> cases decide (mid + m - st < b) <;> rfl
        | false =>
          simp only [cond_false]
          generalize bs (sg sz_f29 s_qos_ranked_1 d ((a + b) / 2 + m - 1)) ((m - a).toNat + 1) a m = st
          unfold sym2
          generalize (a + b) / 2 = mid
          cases decide (st < m) <;> cases decide (m < mid + m - st) <;> cases decide (a < st) <;> cases decide (st < mid) <;> cases decide (mid < mid + m - st) <;> cases decide (mid + m - st < b) <;> rfl
theorem q_stb0_f29 (n0 : Nat) (n : Int) : ∀ (k : Nat) (v : List Entry) (a b : Int), l_slices_stableCmpFunc_b0 n0 n k v a b = stb0 sz_f29 s_qos_ranked_1 n k v a b
  | 0, _, _, _ => rfl
  | k + 1, v, a, b => by
    rw [l_slices_stableCmpFunc_b0, stb0, q_stb0_f29 n0 n k, q_ins_f29]
theorem q_stb2_f29 (n0 : Nat) (n : Int) : ∀ (k : Nat) (v : List Entry) (a b s : Int), l_slices_stableCmpFunc_b2 n0 n k v a b s = stb2 sz_f29 s_qos_ranked_1 n k v a b s
  | 0, _, _, _, _ => rfl
  | k + 1, v, a, b, s => by
    rw [l_slices_stableCmpFunc_b2, stb2, q_stb2_f29 n0 n k, q_sym_f29]
theorem q_stb1_f29 (n0 : Nat) (n : Int) : ∀ (k : Nat) (v : List Entry) (s : Int), l_slices_stableCmpFunc_b1 n0 n k v s = stb1 sz_f29 s_qos_ranked_1 n k v s
  | 0, _, _ => rfl
  | k + 1, v, s => by
    rw [l_slices_stableCmpFunc_b1, stb1]
    simp only [q_stb1_f29 n0 n k, q_stb2_f29, q_sym_f29]
    rfl
theorem q_stb_f29 (n0 : Nat) (d : List Entry) (n : Int) : s_slices_stableCmpFunc_f29 n0 d n = stb sz_f29 s_qos_ranked_1 d n := by
  unfold s_slices_stableCmpFunc_f29 stb
  simp only [q_stb1_f29, q_ins_f29, q_stb0_f29]
theorem q_sort_f29 (T : Tot s_qos_ranked_1) (d : List Entry) : s_slices_SortStableFunc_f29 d.length d = isort s_qos_ranked_1 d := by
  unfold s_slices_SortStableFunc_f29
  rw [q_stb_f29, stb_isort _ T d _ rfl]
end Go.Proofs.Ytnicmdfafihmpaa
