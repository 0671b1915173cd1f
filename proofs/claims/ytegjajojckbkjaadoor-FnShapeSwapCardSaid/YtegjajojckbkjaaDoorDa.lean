/- Contracts: the reader of a code, what it draws. -/
import Derived.Test.YtegjajojckbkjaaDoorWi
import Derived.Test.YtegjajojckbkjaaDoorCb
namespace Go.Vl
open Go Go.RowKit Go.Proofs
set_option maxRecDepth 100000
set_option linter.unusedSimpArgs false
set_option linter.unusedVariables false
set_option maxHeartbeats 1000000

def bytesL (bs : List Int) : List (List Leaf) := bs.map fun b => [.g (.int .u8 b)]
def bytesI (bs : List Int) : Slot := .one (.imm 1 (bytesL bs))
def rdO (bs : List Int) (p : Nat) : Ob := .box [.imm 1 (bytesL bs), .g (.int .i64 p)]
def rdS : Slot := .one (.ptr 0 0)
structure BOk (bs : List Int) : Prop where
  b : ∀ x ∈ bs, 0 ≤ x ∧ x < 256
  l : bs.length ≤ 2000
def at0 (bs : List Int) (i : Nat) : Int := (bs[i]?).getD 0
theorem BOk.at0 {bs : List Int} (h : BOk bs) (i : Nat) : 0 ≤ at0 bs i ∧ at0 bs i < 256 := by
  unfold Vl.at0
  rcases Nat.lt_or_ge i bs.length with hl | hl
  · rw [List.getElem?_eq_getElem hl]; exact h.b _ (List.getElem_mem hl)
  · rw [List.getElem?_eq_none hl]; simp
theorem brow {bs : List Int} {n : Int} (h : n.toNat < bs.length) : (bytesL bs)[n.toNat]? = some [.g (.int .u8 (at0 bs n.toNat))] := by
  unfold bytesL at0
  rw [List.getElem?_map, List.getElem?_eq_getElem h]; rfl
theorem bytesL_len (bs : List Int) : (bytesL bs).length = bs.length := by simp [bytesL]

theorem c_l10Open {bs : List Int} (hl : bs.length ≤ maxLen) : CallsV Tryd.prog 51 [bytesI bs] [] (funQ (.one (.ptr 0 0)) [] [rdO (bs.take 2000) 0]) := by
  refine funF_walk hTb Tryd.func51 rfl rfl Tryd.ntmps51 (by simp) (by simp) ?_
  (conv => whnf); repeat' (first | (refine And.intro ?_ ?_ <;> ((try intro h) <;> (try simp only [Bool.not_true, Bool.not_false] at h) <;> first | exact absurd h Bool.false_ne_true | exact absurd h.symm Bool.false_ne_true | conv => whnf)) | (refine Need.mk ?_; kernel_rfl) | (refine Need.mk ⟨rfl, ?_⟩; decide))
  · have h2 : 2000 < bs.length := by simp [bytesL_len] at h; omega
    refine VR.op hTb rfl rfl (o_slice_imm (n1 := 0) (n2 := 2000) (rows' := bytesL (bs.take 2000)) hTb rfl rfl rfl rfl rfl rfl bnd_none (bnd_some rfl) (by omega) (by rw [bytesL_len]; omega) (by simp [bytesL, List.map_take])) rfl ?_
    (conv => whnf); repeat' (first | (refine And.intro ?_ ?_ <;> ((try intro h) <;> (try simp only [Bool.not_true, Bool.not_false] at h) <;> first | exact absurd h Bool.false_ne_true | exact absurd h.symm Bool.false_ne_true | conv => whnf)) | (refine Need.mk ?_; kernel_rfl) | (refine Need.mk ⟨rfl, ?_⟩; decide))
    exact endW [110] rfl rfl rfl rfl rfl (LeS.refl _) rfl rfl
  · have h2 : bs.length ≤ 2000 := by simp [bytesL_len] at h; omega
    rw [List.take_of_length_le h2]
    exact endW [110] rfl rfl rfl rfl rfl (LeS.refl _) rfl rfl

theorem wrapP {p : Nat} (h : p ≤ 1099511627776) : IntKind.i64.wrap ((p : Int) + 1) = ((p + 1 : Nat) : Int) := by
  rw [IntKind.wrap_i64]; omega

theorem rd_out {bs : List Int} {p : Nat} (hp : p ≤ 1099511627776) : [some (Ob.box [.imm 1 (bytesL bs), .g (.int .i64 (IntKind.i64.wrap ((p : Int) + 1)))])] = [some (rdO bs (p + 1))] := by rw [wrapP hp]; rfl
theorem tmod_rng {x n : Int} (h0 : 0 ≤ x) (hn : ¬ n < 1) : 0 ≤ x.tmod n ∧ (x.tmod n < n ∨ n < 1 ∧ x.tmod n = 0) := by
  have h1 := Int.tmod_nonneg n h0
  have h2 := Int.tmod_lt_of_pos x (show 0 < n by omega)
  exact ⟨h1, .inl h2⟩
theorem tmod_idx {bs : List Int} {x : Int} (h0 : 0 ≤ x) (hl : bs.length ≠ 0) : 0 ≤ x.tmod ((bytesL bs).length : Int) ∧ (x.tmod ((bytesL bs).length : Int)).toNat < bs.length := by
  rw [bytesL_len]
  have h1 := Int.tmod_nonneg (bs.length : Int) h0
  have h2 := Int.tmod_lt_of_pos x (show (0 : Int) < bs.length by omega)
  omega
theorem bits_pos {x y : Int} : 0 ≤ x → x < 4611686018427387904 → 0 ≤ y → y < 4611686018427387904 → 0 ≤ bits .xor .i64 x y := by
  intro h1 h2 h3 h4
  have a1 : (BitVec.ofInt 64 x).toNat < 2 ^ 62 := by rw [BitVec.toNat_ofInt]; omega
  have a2 : (BitVec.ofInt 64 y).toNat < 2 ^ 62 := by rw [BitVec.toNat_ofInt]; omega
  have a3 : (BitVec.ofInt 64 x ^^^ BitVec.ofInt 64 y).toNat < 2 ^ 62 := by rw [BitVec.toNat_xor]; exact Nat.xor_lt_two_pow a1 a2
  show 0 ≤ IntKind.i64.wrap ((BitVec.ofInt 64 x ^^^ BitVec.ofInt 64 y).toNat : Int)
  rw [IntKind.wrap_i64]; omega
theorem wr {x : Int} (h : 0 ≤ x ∧ x < 4611686018427387904) : IntKind.i64.wrap x = x := by rw [IntKind.wrap_i64]; omega
theorem mix_rng {a b p q : Int} (ha : 0 ≤ a ∧ a < 256) (hb : 0 ≤ b ∧ b < 256) (hp : 0 ≤ p ∧ p ≤ 1099511627776) (hq : 0 ≤ q ∧ q ≤ 1099511627776) :
    0 ≤ IntKind.i64.wrap (IntKind.i64.wrap (IntKind.i64.wrap (IntKind.i64.wrap (IntKind.i64.wrap a * 131) + IntKind.i64.wrap (IntKind.i64.wrap b * 1117)) + IntKind.i64.wrap (p * 29)) + IntKind.i64.wrap (IntKind.i64.wrap q * 53)) ∧
    IntKind.i64.wrap (IntKind.i64.wrap (IntKind.i64.wrap (IntKind.i64.wrap (IntKind.i64.wrap a * 131) + IntKind.i64.wrap (IntKind.i64.wrap b * 1117)) + IntKind.i64.wrap (p * 29)) + IntKind.i64.wrap (IntKind.i64.wrap q * 53)) < 4611686018427387904 := by
  rw [wr (x := a) (by omega), wr (x := b) (by omega), wr (x := a * 131) (by omega), wr (x := b * 1117) (by omega), wr (x := p * 29) (by omega), wr (x := q) (by omega), wr (x := q * 53) (by omega), wr (x := a * 131 + b * 1117) (by omega),
    wr (x := a * 131 + b * 1117 + p * 29) (by omega), wr (x := a * 131 + b * 1117 + p * 29 + q * 53) (by omega)]
  omega
theorem div_rng {p m : Int} (hp : 0 ≤ p) (hm : 1 ≤ m) : 0 ≤ p.tdiv m ∧ p.tdiv m ≤ p := by
  rw [Int.tdiv_eq_ediv_of_nonneg hp]
  exact ⟨Int.ediv_nonneg hp (by omega), Int.ediv_le_self m hp⟩

theorem c_pick {bs : List Int} (hb : BOk bs) (p : Nat) (n : Int) (hp : p ≤ 1099511627776) : CallsV Tryd.prog 79 [rdS, iS n] [rdO bs p]
    (relQ (fun y : Int => 0 ≤ y ∧ (y < n ∨ n < 1 ∧ y = 0)) iS (fun _ => [some (rdO bs (p + 1))]) (fun _ => [])) := by
  have e1 : IntKind.i64.wrap (IntKind.i64.wrap ((p : Int) + 1) - 1) = p := by rw [IntKind.wrap_i64, IntKind.wrap_i64]; omega
  have hlen := hb.l
  refine funF_walk hTb Tryd.func79 rfl rfl Tryd.ntmps79 (by simp) (by simp) ?_
  (conv => whnf); repeat' (first | (refine And.intro ?_ ?_ <;> ((try intro h) <;> (try simp only [Bool.not_true, Bool.not_false] at h) <;> first | exact absurd h Bool.false_ne_true | exact absurd h.symm Bool.false_ne_true | conv => whnf)) | (refine Need.mk ?_; kernel_rfl) | (refine Need.mk ⟨rfl, ?_⟩; decide))
  all_goals (try (simp only [Bool.true_eq_false] at *; done))
  all_goals first
    | exact endR [] 0 rfl rfl rfl rfl rfl (LeS.refl _) (rd_out hp) rfl (by first | omega | decide | (simp_all; done) | (simp_all; omega))
    | (rw [e1] at h ⊢
       have h2 : ¬ n < 1 := by simp_all
       have h3 : bs.length ≠ 0 := by intro h0; simp_all [bytesL_len])
  · have h4 : p < bs.length := by simp [bytesL_len] at h; omega
    have hr := brow (bs := bs) (n := (p : Int)) (by rw [Int.toNat_natCast]; exact h4)
    (conv => whnf); repeat' (first
    | (refine And.intro ?_ ?_ <;> ((try intro h) <;> (try simp only [Bool.not_true, Bool.not_false, decide_eq_true_eq, decide_eq_false_iff_not, Int.not_lt, Int.not_le, gt_iff_lt, ge_iff_le] at h) <;> first | exact absurd h Bool.false_ne_true | exact absurd h.symm Bool.false_ne_true | conv => whnf))
    | (refine VL.drawS hTb hMix (by kernel_rfl) (by kernel_rfl) (by kernel_rfl) ?_; conv => whnf)
    | (refine Need.mk ?_; kernel_rfl) | (refine Need.mk ⟨rfl, ?_⟩; decide)
    | (refine VR.op hTb rfl rfl (o_index_imm hTb rfl rfl rfl rfl rfl rfl rfl (by omega) (hr)) rfl ?_; conv => whnf)
    | (refine DT.op hTb rfl (o_index_imm hTb rfl rfl rfl rfl rfl rfl rfl (by omega) (hr)) rfl ?_; conv => whnf))
    · exact Need.mk ⟨rfl, by omega⟩
    · have h5 := hb.at0 ((p : Int).toNat)
      exact endR [] _ rfl rfl rfl rfl rfl (LeS.refl _) (rd_out hp) rfl (tmod_rng (by rw [IntKind.wrap_i64]; omega) h2)
  · have m1 := tmod_idx (bs := bs) (x := (p : Int)) (by omega) h3
    have m2 := tmod_idx (bs := bs) (x := IntKind.i64.wrap (IntKind.i64.wrap ((p : Int) * 7) + 3)) (by rw [wr (x := (p : Int) * 7) (by omega), wr (by omega)]; omega) h3
    have m3 := div_rng (p := (p : Int)) (m := ((bytesL bs).length : Int)) (by omega) (by rw [bytesL_len]; omega)
    (conv => whnf); repeat' (first
    | (refine And.intro ?_ ?_ <;> ((try intro h) <;> (try simp only [Bool.not_true, Bool.not_false, decide_eq_true_eq, decide_eq_false_iff_not, Int.not_lt, Int.not_le, gt_iff_lt, ge_iff_le] at h) <;> first | exact absurd h Bool.false_ne_true | exact absurd h.symm Bool.false_ne_true | conv => whnf))
    | (refine VL.drawS hTb hMix (by kernel_rfl) (by kernel_rfl) (by kernel_rfl) ?_; conv => whnf)
    | (refine Need.mk ?_; kernel_rfl) | (refine Need.mk ⟨rfl, ?_⟩; decide)
    | (refine VR.op hTb rfl rfl (o_index_imm hTb rfl rfl rfl rfl rfl rfl rfl (by omega) ((brow m1.2))) rfl ?_; conv => whnf)
    | (refine DT.op hTb rfl (o_index_imm hTb rfl rfl rfl rfl rfl rfl rfl (by omega) ((brow m1.2))) rfl ?_; conv => whnf)
    | (refine VR.op hTb rfl rfl (o_index_imm hTb rfl rfl rfl rfl rfl rfl rfl (by omega) ((brow m2.2))) rfl ?_; conv => whnf)
    | (refine DT.op hTb rfl (o_index_imm hTb rfl rfl rfl rfl rfl rfl rfl (by omega) ((brow m2.2))) rfl ?_; conv => whnf))
    all_goals first
      | exact Need.mk ⟨rfl, by first | omega | (rw [bytesL_len]; omega)⟩
      | skip
    have h5 := hb.at0 ((p : Int).tmod ((bytesL bs).length : Int)).toNat
    have h6 := hb.at0 ((IntKind.i64.wrap (IntKind.i64.wrap ((p : Int) * 7) + 3)).tmod ((bytesL bs).length : Int)).toNat
    have h7 := mix_rng h5 h6 (p := (p : Int)) (q := (p : Int).tdiv ((bytesL bs).length : Int)) (by omega) (by omega)
    exact endR [] _ rfl rfl rfl rfl rfl (LeS.refl _) (rd_out hp) rfl (tmod_rng (bits_pos h7.1 h7.2 (by rw [wr (by have := div_rng (m := 64) h7.1 (by omega); omega)]; have := div_rng (m := 64) h7.1 (by omega); omega) (by rw [wr (by have := div_rng (m := 64) h7.1 (by omega); omega)]; have := div_rng (m := 64) h7.1 (by omega); omega)) h2)
end Go.Vl
