/- Short forms for joined texts. Contracts: values' order and size. Contracts: a value's soundness. Contracts: the reader of a code, what it draws. The types of what is handed in, as leaves: codes. Contracts: what the reader draws: texts, numbers, values. Contracts: columns. The data of the laws: types, how they lie as leaves. Printed by our own gends.py. -/
import Derived.Test.YtdijjjgplhbkkaaGreatDoorWg
import Derived.Test.YtdijjjgplhbkkaaGreatDoorTab
import Derived.Test.YtdijjjgplhbkkaaGreatDoorWi
import Derived.Test.YtdijjjgplhbkkaaGreatDoorWk
set_option linter.unusedSimpArgs false
set_option linter.unusedVariables false
set_option linter.unnecessarySimpa false
set_option maxRecDepth 100000
set_option maxHeartbeats 16000000

namespace Go.Vl
open Go Go.RowKit
theorem gS : (!true) = false ∧ (!false) = true ∧ (∀ (p : Prop) [Decidable p], (decide p = true) = p) ∧ (∀ (p : Prop) [Decidable p], (decide p = false) ↔ ¬p) ∧ (∀ a b : Int, ¬a < b ↔ b ≤ a) ∧ (∀ a b : Int, ¬a ≤ b ↔ b < a) ∧ (∀ {α : Type} [LT α] (a b : α), a > b ↔ b < a) ∧ (∀ {α : Type} [LE α] (a b : α), a ≥ b ↔ b ≤ a) :=
  ⟨rfl, rfl, fun _ _ => decide_eq_true_eq, fun _ _ => decide_eq_false_iff_not, fun _ _ => Int.not_lt, fun _ _ => Int.not_le, fun _ _ => Iff.rfl, fun _ _ => Iff.rfl⟩
theorem gQ {α β γ δ : Type} {a : α} {b : β} {c : γ} {d : δ} : a = a ∧ b = b ∧ c = c ∧ d = d := ⟨rfl, rfl, rfl, rfl⟩
theorem gN {p : Prop} : false = true → p := fun h => by cases h
theorem gF : false ≠ true := Bool.false_ne_true
theorem gW {n : Nat} (h : n + 1 ≤ maxLen) : Slot.one (.g (.int .i64 (IntKind.i64.wrap ((n : Int) + 1)))) = .one (.g (.int .i64 ((n + 1 : Nat) : Int))) := by
  have e : IntKind.i64.wrap ((n : Int) + 1) = ((n + 1 : Nat) : Int) := by rw [IntKind.wrap_i64]; unfold maxLen at h; omega
  rw [e]
open Go Go.RowKit Go.Proofs
structure Val where
  k : Int
  n : Int
  t : ByteArray
def encVal : Val → List Leaf
  | ⟨k, n, t⟩ => [.g (.int .i64 k), .g (.int .i64 n), .g (.string t)]
def bS (b : Bool) : Slot := .one (.g (.bool b))
def iS (n : Int) : Slot := .one (.g (.int .i64 n))
def strS (s : ByteArray) : Slot := .one (.g (.string s))
theorem c_in (n lo hi : Int) : CallsV Tryz.prog 80 [iS n, iS lo, iS hi] [] (pureQ (bS (decide (lo ≤ n) && decide (n ≤ hi)))) := by
  refine pure_walk hTb Tryz.func80 rfl rfl Tryz.ntmps80 (by simp) ?_
  (conv => whnf); repeat' ((first | (refine And.intro ?_ ?_ <;> ((try intro h) <;> (try simp only [Bool.not_true, Bool.not_false] at h) <;> first | exact absurd h gF | exact absurd h.symm gF | conv => whnf))) <;> conv => whnf)
  all_goals (simp_all [bS])
  all_goals (try (intro; omega))
theorem c_l1Num (n : Int) : CallsV Tryz.prog 207 [iS n] [] (pureQ (bS (decide (-999 ≤ n) && decide (n ≤ 999)))) := by
  refine pure_walk hTb Tryz.func207 rfl rfl Tryz.ntmps207 (by simp) ?_
  (conv => whnf); repeat' ((first | (refine And.intro ?_ ?_ <;> ((try intro h) <;> (try simp only [Bool.not_true, Bool.not_false] at h) <;> first | exact absurd h gF | exact absurd h.symm gF | conv => whnf))) <;> conv => whnf)
  all_goals (simp_all [bS])
  all_goals (try (intro; omega))
def okByte (c : Int) : Bool := decide ((97 ≤ c ∧ c ≤ 122) ∨ (48 ≤ c ∧ c ≤ 57) ∨ c = 45)
def okFrom (s : ByteArray) (i : Nat) : Bool := (List.range' i (s.size - i)).all fun j => okByte (sgetI s j)
theorem okFrom_step {s : ByteArray} {i : Nat} (h : i < s.size) : okFrom s i = (okByte (sgetI s i) && okFrom s (i + 1)) := by
  unfold okFrom
  rw [show s.size - i = (s.size - (i + 1)) + 1 by omega, List.range'_succ, List.all_cons]
theorem okFrom_end {s : ByteArray} {i : Nat} (h : s.size ≤ i) : okFrom s i = true := by
  unfold okFrom
  rw [show s.size - i = 0 by omega]; rfl
def textOk (s : ByteArray) : Bool := okFrom s 0 && decide ((s.size : Int) ≤ 4)
theorem wrap64' {n : Nat} (h : n + 1 ≤ maxLen) : IntKind.i64.wrap ((n : Int) + 1) = ((n + 1 : Nat) : Int) := by
  rw [IntKind.wrap_i64]; unfold maxLen at h; omega
theorem c_l1Text (s : ByteArray) (hs : s.size ≤ maxLen) : CallsV Tryz.prog 208 [.one (.g (.string s))] [] (pureQ (bS (textOk s))) := by
  refine pure_walk hTb Tryz.func208 rfl rfl Tryz.ntmps208 (by simp) ?_
  (conv => whnf)
  refine VL.loopI hTb (fun i => i ≤ s.size ∧ okFrom s 0 = okFrom s i) (fun i => ⟨[(0, .one (.g (.string s))), (3, iS i)], [], []⟩) (fun i => s.size - i) 0 ⟨Nat.zero_le _, rfl⟩
    (wk_to [] rfl rfl rfl ⟨rfl, rfl, trivial⟩ trivial) (fun i hi => ?_)
  obtain ⟨hi, hf⟩ := hi
  (conv => whnf); repeat' ((first | (refine And.intro ?_ ?_ <;> ((try intro h) <;> (try simp only [Bool.not_true, Bool.not_false] at h) <;> first | exact absurd h gF | exact absurd h.symm gF | conv => whnf))) <;> conv => whnf)
  set_option linter.unusedSimpArgs false in
  all_goals (try simp only [Int.toNat_natCast, decide_eq_true_eq, decide_eq_false_iff_not, bne_iff_ne, bne_eq_false_iff_eq, beq_iff_eq, beq_eq_false_iff_ne, ne_eq, Int.ofNat_lt, Bool.not_true, Bool.not_false, Bool.not_eq_true, Bool.true_eq_false, Bool.false_eq_true, reduceCtorEq] at *)
  all_goals first
    | (refine Need.mk ?_; omega)
    | (refine ⟨i + 1, ⟨by omega, ?_⟩, by omega, wk_to [] rfl rfl rfl ⟨rfl, congrArg (fun x => Slot.one (.g (.int .i64 x))) (wrap64' (by omega)), trivial⟩ trivial⟩; rw [hf, okFrom_step (by omega), show okByte (sgetI s i) = true from decide_eq_true (by omega), Bool.true_and]; done)
    | (simp only [bS, textOk, hf]; rw [okFrom_step (by omega), show okByte (sgetI s i) = false from decide_eq_false (by omega), Bool.false_and, Bool.false_and]; done)
    | (simp only [bS, textOk, hf]; rw [okFrom_end (by omega), Bool.true_and]; done)
def valOk (v : Val) : Bool :=
  if v.k = 0 then v.n == 0 && v.t.toList == [] else if v.k = 1 then (decide (-999 ≤ v.n) && decide (v.n ≤ 999)) && v.t.toList == [] else if v.k = 2 then v.n == 0 && textOk v.t else false
theorem emptyList : (⟨#[]⟩ : ByteArray).toList = [] := by rw [ByteArray.toList_eq]
theorem c_specValOk (v : Val) (hv : v.t.size ≤ maxLen) : CallsV Tryz.prog 183 [.agg (encVal v)] [] (pureQ (bS (valOk v))) := by
  refine pure_walk hTb Tryz.func183 rfl rfl Tryz.ntmps183 (by simp) ?_
  (conv => whnf); repeat' (first
    | (refine And.intro ?_ ?_ <;> ((try intro h) <;> (try simp only [Bool.not_true, Bool.not_false] at h) <;> first | exact absurd h gF | exact absurd h.symm gF | conv => whnf))
    | (refine VL.drawS hTb hMix (by kernel_rfl) (by kernel_rfl) (by kernel_rfl) ?_; conv => whnf)
    | (refine Need.mk ?_; kernel_rfl) | (refine Need.mk ⟨rfl, ?_⟩; decide)
    | (refine VR.pure hTb rfl rfl (o_purN (c_l1Num _) rfl rfl rfl gQ rfl) ?_; conv => whnf)
    | (refine DT.pure hTb rfl (o_purN (c_l1Num _) rfl rfl rfl gQ rfl) ?_; conv => whnf)
    | (refine VR.pure hTb rfl rfl (o_purN (c_l1Text _ hv) rfl rfl rfl gQ rfl) ?_; conv => whnf)
    | (refine DT.pure hTb rfl (o_purN (c_l1Text _ hv) rfl rfl rfl gQ rfl) ?_; conv => whnf))
  set_option linter.unusedSimpArgs false in
  all_goals (try simp only [Int.toNat_natCast, decide_eq_true_eq, decide_eq_false_iff_not, bne_iff_ne, bne_eq_false_iff_eq, beq_iff_eq, beq_eq_false_iff_ne, ne_eq, Int.ofNat_lt, Bool.not_true, Bool.not_false, Bool.not_eq_true, Bool.true_eq_false, Bool.false_eq_true, reduceCtorEq] at *)
  all_goals simp_all [valOk, bS, emptyList]
theorem c_implValOk (v : Val) (hv : v.t.size ≤ maxLen) : CallsV Tryz.prog 143 [.agg (encVal v)] [] (pureQ (bS (valOk v))) := by
  refine pure_walk hTb Tryz.func143 rfl rfl Tryz.ntmps143 (by simp) ?_
  (conv => whnf); repeat' (first
    | (refine And.intro ?_ ?_ <;> ((try intro h) <;> (try simp only [Bool.not_true, Bool.not_false] at h) <;> first | exact absurd h gF | exact absurd h.symm gF | conv => whnf))
    | (refine VL.drawS hTb hMix (by kernel_rfl) (by kernel_rfl) (by kernel_rfl) ?_; conv => whnf)
    | (refine Need.mk ?_; kernel_rfl) | (refine Need.mk ⟨rfl, ?_⟩; decide)
    | (refine VR.pure hTb rfl rfl (o_purN (c_in _ _ _) rfl rfl rfl gQ rfl) ?_; conv => whnf)
    | (refine DT.pure hTb rfl (o_purN (c_in _ _ _) rfl rfl rfl gQ rfl) ?_; conv => whnf))
  all_goals first
    | (refine VL.loopI hTb (fun i => i ≤ v.t.size ∧ okFrom v.t 0 = okFrom v.t i) (fun i => ⟨[(1, .one (.ptr 101 0)), (26, iS v.t.size), (27, iS i)], [(101, .box (encVal v))], []⟩) (fun i => v.t.size - i) 0 ⟨Nat.zero_le _, rfl⟩
        (wk_to [(101, 101)] rfl rfl rfl ⟨rfl, rfl, rfl, trivial⟩ ⟨rfl, ⟨_, rfl, rfl⟩, trivial⟩) (fun i hi => ?_)
       obtain ⟨hi, hf⟩ := hi
       (conv => whnf); repeat' ((first | (refine And.intro ?_ ?_ <;> ((try intro h) <;> (try simp only [Bool.not_true, Bool.not_false] at h) <;> first | exact absurd h gF | exact absurd h.symm gF | conv => whnf))) <;> conv => whnf))
    | (simp_all [valOk, bS, emptyList]; done)
    | (simp_all [valOk, bS, emptyList]; intros; omega)
  set_option linter.unusedSimpArgs false in
  all_goals (try simp only [Int.toNat_natCast, decide_eq_true_eq, decide_eq_false_iff_not, bne_iff_ne, bne_eq_false_iff_eq, beq_iff_eq, beq_eq_false_iff_ne, ne_eq, Int.ofNat_lt, Bool.not_true, Bool.not_false, Bool.not_eq_true, Bool.true_eq_false, Bool.false_eq_true, reduceCtorEq] at *)
  all_goals first
    | (refine Need.mk ?_; omega)
    | (refine ⟨i + 1, ⟨by omega, ?_⟩, by omega, wk_to [(101, 101)] rfl rfl rfl ⟨rfl, rfl, congrArg (fun x => Slot.one (.g (.int .i64 x))) (wrap64' (by omega)), trivial⟩ ⟨rfl, ⟨_, rfl, rfl⟩, trivial⟩⟩; rw [hf, okFrom_step (by omega), show okByte (sgetI v.t i) = true from decide_eq_true (by omega), Bool.true_and]; done)
    | (have e : textOk v.t = false := by
         simp only [textOk, hf]
         rw [okFrom_step (by omega), show okByte (sgetI v.t i) = false from decide_eq_false (by omega), Bool.false_and, Bool.false_and]
       simp_all [valOk, bS]; done)
    | (have e : textOk v.t = decide ((v.t.size : Int) ≤ 4) := by
         simp only [textOk, hf]
         rw [okFrom_end (by omega), Bool.true_and]
       simp_all [valOk, bS]; done)
def bytesL (bs : List Int) : List (List Leaf) := bs.map fun b => [.g (.int .u8 b)]
def bytesI (bs : List Int) : Slot := .one (.imm 1 (bytesL bs))
def rdO (bs : List Int) (p : Nat) : Ob := .box [.imm 1 (bytesL bs), .g (.int .i64 p)]
def rdS : Slot := .one (.ptr 0 0)
structure BOk (bs : List Int) : Prop where
  b : ∀ x ∈ bs, 0 ≤ x ∧ x < 256
  l : bs.length ≤ 2000
def at0 (bs : List Int) (i : Nat) : Int := (bs[i]?).getD 0
theorem BOk.at0 {bs : List Int} (h : BOk bs) (i : Nat) : 0 ≤ at0 bs i ∧ at0 bs i < 256 := by
  unfold Vl.at0
  rcases Nat.lt_or_ge i bs.length with hl | hl
  · rw [List.getElem?_eq_getElem hl]; exact h.b _ (List.getElem_mem hl)
  · rw [List.getElem?_eq_none hl]; simp
theorem brow {bs : List Int} {n : Int} (h : n.toNat < bs.length) : (bytesL bs)[n.toNat]? = some [.g (.int .u8 (at0 bs n.toNat))] := by
  unfold bytesL at0
  rw [List.getElem?_map, List.getElem?_eq_getElem h]; rfl
theorem bytesL_len (bs : List Int) : (bytesL bs).length = bs.length := by simp [bytesL]
theorem c_l10Open {bs : List Int} (hl : bs.length ≤ maxLen) : CallsV Tryz.prog 49 [bytesI bs] [] (funQ (.one (.ptr 0 0)) [] [rdO (bs.take 2000) 0]) := by
  refine funF_walk hTb Tryz.func49 rfl rfl Tryz.ntmps49 (by simp) (by simp) ?_
  (conv => whnf); repeat' ((first | (refine And.intro ?_ ?_ <;> ((try intro h) <;> (try simp only [Bool.not_true, Bool.not_false] at h) <;> first | exact absurd h gF | exact absurd h.symm gF | conv => whnf))) <;> conv => whnf)
  · have h2 : 2000 < bs.length := by simp [bytesL_len] at h; omega
    refine VR.op hTb rfl rfl (o_slice_imm (n1 := 0) (n2 := 2000) (rows' := bytesL (bs.take 2000)) hTb rfl rfl rfl rfl rfl rfl bnd_none (bnd_some rfl) (by omega) (by rw [bytesL_len]; omega) (by simp [bytesL, List.map_take])) rfl ?_
    (conv => whnf)
    exact endW [110] rfl rfl rfl rfl rfl (LeS.refl _) rfl rfl
  · have h2 : bs.length ≤ 2000 := by simp [bytesL_len] at h; omega
    rw [List.take_of_length_le h2]
    exact endW [110] rfl rfl rfl rfl rfl (LeS.refl _) rfl rfl
theorem wrapP {p : Nat} (h : p ≤ 1099511627776) : IntKind.i64.wrap ((p : Int) + 1) = ((p + 1 : Nat) : Int) := by
  rw [IntKind.wrap_i64]; omega
theorem rd_out {bs : List Int} {p : Nat} (hp : p ≤ 1099511627776) : [some (Ob.box [.imm 1 (bytesL bs), .g (.int .i64 (IntKind.i64.wrap ((p : Int) + 1)))])] = [some (rdO bs (p + 1))] := by rw [wrapP hp]; rfl
theorem tmod_rng {x n : Int} (h0 : 0 ≤ x) (hn : ¬ n < 1) : 0 ≤ x.tmod n ∧ (x.tmod n < n ∨ n < 1 ∧ x.tmod n = 0) := by
  have h1 := Int.tmod_nonneg n h0
  have h2 := Int.tmod_lt_of_pos x (show 0 < n by omega)
  exact ⟨h1, .inl h2⟩
theorem tmod_idx {bs : List Int} {x : Int} (h0 : 0 ≤ x) (hl : bs.length ≠ 0) : 0 ≤ x.tmod ((bytesL bs).length : Int) ∧ (x.tmod ((bytesL bs).length : Int)).toNat < bs.length := by
  rw [bytesL_len]
  have h1 := Int.tmod_nonneg (bs.length : Int) h0
  have h2 := Int.tmod_lt_of_pos x (show (0 : Int) < bs.length by omega)
  omega
theorem bits_pos {x y : Int} : 0 ≤ x → x < 4611686018427387904 → 0 ≤ y → y < 4611686018427387904 → 0 ≤ bits .xor .i64 x y := by
  intro h1 h2 h3 h4
  have a1 : (BitVec.ofInt 64 x).toNat < 2 ^ 62 := by rw [BitVec.toNat_ofInt]; omega
  have a2 : (BitVec.ofInt 64 y).toNat < 2 ^ 62 := by rw [BitVec.toNat_ofInt]; omega
  have a3 : (BitVec.ofInt 64 x ^^^ BitVec.ofInt 64 y).toNat < 2 ^ 62 := by rw [BitVec.toNat_xor]; exact Nat.xor_lt_two_pow a1 a2
  show 0 ≤ IntKind.i64.wrap ((BitVec.ofInt 64 x ^^^ BitVec.ofInt 64 y).toNat : Int)
  rw [IntKind.wrap_i64]; omega
theorem wr {x : Int} (h : 0 ≤ x ∧ x < 4611686018427387904) : IntKind.i64.wrap x = x := by rw [IntKind.wrap_i64]; omega
theorem mix_rng {a b p q : Int} (ha : 0 ≤ a ∧ a < 256) (hb : 0 ≤ b ∧ b < 256) (hp : 0 ≤ p ∧ p ≤ 1099511627776) (hq : 0 ≤ q ∧ q ≤ 1099511627776) :
    0 ≤ IntKind.i64.wrap (IntKind.i64.wrap (IntKind.i64.wrap (IntKind.i64.wrap (IntKind.i64.wrap a * 131) + IntKind.i64.wrap (IntKind.i64.wrap b * 1117)) + IntKind.i64.wrap (p * 29)) + IntKind.i64.wrap (IntKind.i64.wrap q * 53)) ∧
    IntKind.i64.wrap (IntKind.i64.wrap (IntKind.i64.wrap (IntKind.i64.wrap (IntKind.i64.wrap a * 131) + IntKind.i64.wrap (IntKind.i64.wrap b * 1117)) + IntKind.i64.wrap (p * 29)) + IntKind.i64.wrap (IntKind.i64.wrap q * 53)) < 4611686018427387904 := by
  rw [wr (x := a) (by omega), wr (x := b) (by omega), wr (x := a * 131) (by omega), wr (x := b * 1117) (by omega), wr (x := p * 29) (by omega), wr (x := q) (by omega), wr (x := q * 53) (by omega), wr (x := a * 131 + b * 1117) (by omega),
    wr (x := a * 131 + b * 1117 + p * 29) (by omega), wr (x := a * 131 + b * 1117 + p * 29 + q * 53) (by omega)]
  omega
theorem div_rng {p m : Int} (hp : 0 ≤ p) (hm : 1 ≤ m) : 0 ≤ p.tdiv m ∧ p.tdiv m ≤ p := by
  rw [Int.tdiv_eq_ediv_of_nonneg hp]
  exact ⟨Int.ediv_nonneg hp (by omega), Int.ediv_le_self m hp⟩
theorem c_pick {bs : List Int} (hb : BOk bs) (p : Nat) (n : Int) (hp : p ≤ 1099511627776) : CallsV Tryz.prog 62 [rdS, iS n] [rdO bs p]
    (relQ (fun y : Int => 0 ≤ y ∧ (y < n ∨ n < 1 ∧ y = 0)) iS (fun _ => [some (rdO bs (p + 1))]) (fun _ => [])) := by
  have e1 : IntKind.i64.wrap (IntKind.i64.wrap ((p : Int) + 1) - 1) = p := by rw [IntKind.wrap_i64, IntKind.wrap_i64]; omega
  have hlen := hb.l
  refine funF_walk hTb Tryz.func62 rfl rfl Tryz.ntmps62 (by simp) (by simp) ?_
  (conv => whnf); repeat' ((first | (refine And.intro ?_ ?_ <;> ((try intro h) <;> (try simp only [Bool.not_true, Bool.not_false] at h) <;> first | exact absurd h gF | exact absurd h.symm gF | conv => whnf))) <;> conv => whnf)
  all_goals (try (simp only [Bool.true_eq_false] at *; done))
  all_goals first
    | exact endR [] 0 rfl rfl rfl rfl rfl (LeS.refl _) (rd_out hp) rfl (by first | omega | decide | (simp_all; done) | (simp_all; omega))
    | (rw [e1] at h ⊢
       have h2 : ¬ n < 1 := by simp_all
       have h3 : bs.length ≠ 0 := by intro h0; simp_all [bytesL_len])
  · have h4 : p < bs.length := by simp [bytesL_len] at h; omega
    have hr := brow (bs := bs) (n := (p : Int)) (by rw [Int.toNat_natCast]; exact h4)
    (conv => whnf); repeat' ((first | (refine And.intro ?_ ?_ <;> ((try intro h) <;> (try simp only [gS] at h) <;> first | exact absurd h gF | exact absurd h.symm gF | conv => whnf)) | (refine VR.op hTb rfl rfl (o_index_imm hTb rfl rfl rfl rfl rfl rfl rfl (by omega) (hr)) rfl ?_)) <;> conv => whnf)
    · exact Need.mk ⟨rfl, by omega⟩
    · have h5 := hb.at0 ((p : Int).toNat)
      exact endR [] _ rfl rfl rfl rfl rfl (LeS.refl _) (rd_out hp) rfl (tmod_rng (by rw [IntKind.wrap_i64]; omega) h2)
  · have m1 := tmod_idx (bs := bs) (x := (p : Int)) (by omega) h3
    have m2 := tmod_idx (bs := bs) (x := IntKind.i64.wrap (IntKind.i64.wrap ((p : Int) * 7) + 3)) (by rw [wr (x := (p : Int) * 7) (by omega), wr (by omega)]; omega) h3
    have m3 := div_rng (p := (p : Int)) (m := ((bytesL bs).length : Int)) (by omega) (by rw [bytesL_len]; omega)
    (conv => whnf); repeat' ((first | (refine And.intro ?_ ?_ <;> ((try intro h) <;> (try simp only [gS] at h) <;> first | exact absurd h gF | exact absurd h.symm gF | conv => whnf)) | (refine VL.drawS hTb hMix (by kernel_rfl) (by kernel_rfl) (by kernel_rfl) ?_) | (refine Need.mk ?_; kernel_rfl) | (refine Need.mk ⟨rfl, ?_⟩; decide) | (refine DT.op hTb rfl (o_index_imm hTb rfl rfl rfl rfl rfl rfl rfl (by omega) ((brow m1.2))) rfl ?_) | (refine DT.op hTb rfl (o_index_imm hTb rfl rfl rfl rfl rfl rfl rfl (by omega) ((brow m2.2))) rfl ?_)) <;> conv => whnf)
    all_goals first
      | exact Need.mk ⟨rfl, by first | omega | (rw [bytesL_len]; omega)⟩
      | skip
    have h5 := hb.at0 ((p : Int).tmod ((bytesL bs).length : Int)).toNat
    have h6 := hb.at0 ((IntKind.i64.wrap (IntKind.i64.wrap ((p : Int) * 7) + 3)).tmod ((bytesL bs).length : Int)).toNat
    have h7 := mix_rng h5 h6 (p := (p : Int)) (q := (p : Int).tdiv ((bytesL bs).length : Int)) (by omega) (by omega)
    exact endR [] _ rfl rfl rfl rfl rfl (LeS.refl _) (rd_out hp) rfl (tmod_rng (bits_pos h7.1 h7.2 (by rw [wr (by have := div_rng (m := 64) h7.1 (by omega); omega)]; have := div_rng (m := 64) h7.1 (by omega); omega) (by rw [wr (by have := div_rng (m := 64) h7.1 (by omega); omega)]; have := div_rng (m := 64) h7.1 (by omega); omega)) h2)
theorem wt_bytes {m : Nat} {ls : List Leaf} (h : WT Tryz.prog (m + 2) 22 ls) : ∃ bs : List Int, ls = [.imm 1 (bytesL bs)] ∧ bs.length ≤ maxLen ∧ ∀ x ∈ bs, 0 ≤ x ∧ x < 256 := by
  obtain ⟨rows, e, hl, hr⟩ := wt_slice Tryz.underlying22 h
  rw [show Tryz.prog.cellsOf 5 = 1 by kernel_rfl] at e
  have key : ∀ rows : List (List Leaf), (∀ r ∈ rows, ∃ x : Int, r = [.g (.int .u8 x)] ∧ 0 ≤ x ∧ x < 256) → ∃ bs : List Int, rows = bytesL bs ∧ ∀ x ∈ bs, 0 ≤ x ∧ x < 256 := by
    intro rows
    induction rows with
    | nil => intro _; exact ⟨[], rfl, by simp⟩
    | cons r rows ih =>
      intro hh
      obtain ⟨x, rfl, hx⟩ := hh r (by simp)
      obtain ⟨bs, rfl, hbs⟩ := ih fun r hr => hh r (by simp [hr])
      exact ⟨x :: bs, rfl, by simpa using ⟨hx, hbs⟩⟩
  obtain ⟨bs, rfl, hbs⟩ := key rows fun r hrm => by
    obtain ⟨x, e, hw⟩ := wt_int Tryz.underlying5 (hr r hrm).2
    refine ⟨x, e, ?_⟩
    simp [Lit.wf, IntKind.min, IntKind.max, IntKind.signed, IntKind.bits] at hw
    omega
  exact ⟨bs, e, by simpa [bytesL] using hl, hbs⟩
def strRows (Q : ByteArray → Prop) (rows : List (List Leaf)) : Prop := ∀ r ∈ rows, ∃ t, r = [.g (.string t)] ∧ Q t
def intRows (Q : Int → Prop) (rows : List (List Leaf)) : Prop := ∀ r ∈ rows, ∃ t, r = [.g (.int .i64 t)] ∧ Q t
def strAt (rows : List (List Leaf)) (i : Nat) : ByteArray := match rows[i]? with
  | some [.g (.string t)] => t
  | _ => ⟨#[]⟩
def intAt (rows : List (List Leaf)) (i : Nat) : Int := match rows[i]? with
  | some [.g (.int .i64 t)] => t
  | _ => 0
theorem strAt_row {Q : ByteArray → Prop} {rows : List (List Leaf)} (h : strRows Q rows) {i : Nat} (hi : i < rows.length) : rows[i]? = some [.g (.string (strAt rows i))] ∧ Q (strAt rows i) := by
  obtain ⟨t, ht, hq⟩ := h rows[i] (List.getElem_mem hi)
  have e : rows[i]? = some [.g (.string t)] := by rw [List.getElem?_eq_getElem hi, ht]
  have e2 : strAt rows i = t := by unfold strAt; rw [e]
  rw [e2]; exact ⟨e, hq⟩
theorem intAt_row {Q : Int → Prop} {rows : List (List Leaf)} (h : intRows Q rows) {i : Nat} (hi : i < rows.length) : rows[i]? = some [.g (.int .i64 (intAt rows i))] ∧ Q (intAt rows i) := by
  obtain ⟨t, ht, hq⟩ := h rows[i] (List.getElem_mem hi)
  have e : rows[i]? = some [.g (.int .i64 t)] := by rw [List.getElem?_eq_getElem hi, ht]
  have e2 : intAt rows i = t := by unfold intAt; rw [e]
  rw [e2]; exact ⟨e, hq⟩
theorem bs0 : (⟨#[]⟩ : ByteArray).size = 0 := rfl
theorem c_of {bs : List Int} (hb : BOk bs) (p : Nat) (E : TypeId) (rows : List (List Leaf)) (Q : ByteArray → Prop) (hr : strRows Q rows) (h0 : 0 < rows.length) (hp : p ≤ 1099511627776) : CallsV Tryz.prog 64 [rdS, .one (.own 1 0 rows.length)] [rdO bs p, .arr E 1 rows]
    (relQ Q (fun t => .one (.g (.string t))) (fun _ => [some (rdO bs (p + 1)), some (.arr E 1 rows)]) (fun _ => [])) := by
  refine funF_walk hTb Tryz.func64 rfl rfl Tryz.ntmps64 (by simp) (by simp) ?_
  (conv => whnf); repeat' ((first | (refine And.intro ?_ ?_ <;> ((try intro h) <;> (try simp only [gS] at h) <;> first | exact absurd h gF | exact absurd h.symm gF | conv => whnf)) | (refine VR.rel hTb rfl rfl (o_relN (c_pick hb _ _ (by omega)) false [0] (fun _ _ => ⟨by simp, gN⟩) rfl rfl rfl rfl rfl gQ rfl rfl) ?_; intro y hy)) <;> conv => whnf)
  all_goals first
    | exact Need.mk ⟨rfl, by omega⟩
    | skip
  have hi : 0 + y.toNat < rows.length := by omega
  obtain ⟨k1, k2⟩ := strAt_row hr hi
  (conv => whnf); repeat' ((first | (refine VR.op hTb rfl rfl (o_load_elm hTb rfl rfl rfl rfl (k1) ⟨by decide, by decide⟩) rfl ?_)) <;> conv => whnf)
  exact endR [] _ rfl rfl rfl rfl rfl (LeS.refl _) rfl rfl k2
theorem c_ofI {bs : List Int} (hb : BOk bs) (p : Nat) (rows : List (List Leaf)) (Q : ByteArray → Prop) (hr : strRows Q rows) (h0 : 0 < rows.length) (hp : p ≤ 1099511627776) : CallsV Tryz.prog 64 [rdS, .one (.imm 1 rows)] [rdO bs p]
    (relQ Q (fun t => .one (.g (.string t))) (fun _ => [some (rdO bs (p + 1))]) (fun _ => [])) := by
  refine funF_walk hTb Tryz.func64 rfl rfl Tryz.ntmps64 (by simp) (by simp) ?_
  (conv => whnf); repeat' ((first | (refine VR.rel hTb rfl rfl (o_relN (c_pick hb _ _ (by omega)) false [0] (fun _ _ => ⟨by simp, gN⟩) rfl rfl rfl rfl rfl gQ rfl rfl) ?_; intro y hy)) <;> conv => whnf)
  have hi : y.toNat < rows.length := by omega
  obtain ⟨k1, k2⟩ := strAt_row hr hi
  (conv => whnf); repeat' ((first | (refine VR.op hTb rfl rfl (o_index_imm hTb rfl rfl rfl rfl rfl rfl rfl (by omega) (k1)) rfl ?_)) <;> conv => whnf)
  exact endR [] _ rfl rfl rfl rfl rfl (LeS.refl _) rfl rfl k2
theorem c_num {bs : List Int} (hb : BOk bs) (p : Nat) (E : TypeId) (rows : List (List Leaf)) (Q : Int → Prop) (hr : intRows Q rows) (h0 : 0 < rows.length) (hp : p ≤ 1099511627776) : CallsV Tryz.prog 132 [rdS, .one (.own 1 0 rows.length)] [rdO bs p, .arr E 1 rows]
    (relQ Q (fun t => iS t) (fun _ => [some (rdO bs (p + 1)), some (.arr E 1 rows)]) (fun _ => [])) := by
  refine funF_walk hTb Tryz.func132 rfl rfl Tryz.ntmps132 (by simp) (by simp) ?_
  (conv => whnf); repeat' ((first | (refine And.intro ?_ ?_ <;> ((try intro h) <;> (try simp only [gS] at h) <;> first | exact absurd h gF | exact absurd h.symm gF | conv => whnf)) | (refine VR.rel hTb rfl rfl (o_relN (c_pick hb _ _ (by omega)) false [0] (fun _ _ => ⟨by simp, gN⟩) rfl rfl rfl rfl rfl gQ rfl rfl) ?_; intro y hy)) <;> conv => whnf)
  all_goals first
    | exact Need.mk ⟨rfl, by omega⟩
    | skip
  have hi : 0 + y.toNat < rows.length := by omega
  obtain ⟨k1, k2⟩ := intAt_row hr hi
  (conv => whnf); repeat' ((first | (refine VR.op hTb rfl rfl (o_load_elm hTb rfl rfl rfl rfl (k1) ⟨by decide, by decide⟩) rfl ?_)) <;> conv => whnf)
  exact endR [] _ rfl rfl rfl rfl rfl (LeS.refl _) rfl rfl k2
theorem c_l1Some {bs : List Int} (hb : BOk bs) (p : Nat) (k : Int) (hp : p ≤ 1099511600000) : CallsV Tryz.prog 130 [rdS, iS k] [rdO bs p]
    (relQ (fun y : Val × Nat => y.1.t.size ≤ 8 ∧ y.2 ≤ p + 2) (fun y => .agg (encVal y.1)) (fun y => [some (rdO bs y.2)]) (fun _ => [])) := by
  have e0 := bs0
  refine funF_walk hTb Tryz.func130 rfl rfl Tryz.ntmps130 (by simp) (by simp) ?_
  (conv => whnf); repeat' ((first | (refine And.intro ?_ ?_ <;> ((try intro h) <;> (try simp only [gS] at h) <;> first | exact absurd h gF | exact absurd h.symm gF | conv => whnf)) | (refine VR.rel hTb rfl rfl (o_relN (c_pick hb _ _ (by omega)) false [0] (fun _ _ => ⟨by simp, gN⟩) rfl rfl rfl rfl rfl gQ rfl rfl) ?_; intro y hy) | (refine VR.rel hTb rfl rfl (o_relN (c_num hb _ _ _ (fun _ => True) (by simp [intRows]) (by simp) (by omega)) false [0, 117] (fun _ _ => ⟨by simp, gN⟩) rfl rfl rfl rfl rfl gQ rfl rfl) ?_; intro y hy) | (refine VR.rel hTb rfl rfl (o_relN (c_of hb _ _ _ (fun t => t.size ≤ 8) (by simp [strRows]; decide) (by simp) (by omega)) false [0, 122] (fun _ _ => ⟨by simp, gN⟩) rfl rfl rfl rfl rfl gQ rfl rfl) ?_; intro y hy)) <;> conv => whnf)
  all_goals exact endR [] (⟨_, _, _⟩, _) rfl rfl rfl rfl rfl (LeS.refl _) rfl rfl ⟨(by first | omega | decide | (simp_all; done) | (simp_all; omega)), (by first | omega | decide | (simp_all; done) | (simp_all; omega))⟩
theorem c_l1Bent {bs : List Int} (hb : BOk bs) (p : Nat) (v : Val) (hv : v.t.size ≤ 8) (hp : p ≤ 1099511600000) : CallsV Tryz.prog 129 [rdS, .agg (encVal v)] [rdO bs p]
    (relQ (fun y : Val × Nat => y.1.t.size ≤ 8 ∧ y.2 ≤ p + 2) (fun y => .agg (encVal y.1)) (fun y => [some (rdO bs y.2)]) (fun _ => [])) := by
  obtain ⟨k, n, t⟩ := v
  simp only at hv
  refine funF_walk hTb Tryz.func129 rfl rfl Tryz.ntmps129 (by simp) (by simp) ?_
  (conv => whnf); repeat' ((first | (refine And.intro ?_ ?_ <;> ((try intro h) <;> (try simp only [gS] at h) <;> first | exact absurd h gF | exact absurd h.symm gF | conv => whnf)) | (refine VR.rel hTb rfl rfl (o_relN (c_pick hb _ _ (by omega)) false [0] (fun _ _ => ⟨by simp, gN⟩) rfl rfl rfl rfl rfl gQ rfl rfl) ?_; intro y hy) | (refine VR.rel hTb rfl rfl (o_relN (c_num hb _ _ _ (fun _ => True) (by simp [intRows]) (by simp) (by omega)) false [0, 110] (fun _ _ => ⟨by simp, gN⟩) rfl rfl rfl rfl rfl gQ rfl rfl) ?_; intro y hy) | (refine VR.rel hTb rfl rfl (o_relN (c_num hb _ _ _ (fun _ => True) (by simp [intRows]) (by simp) (by omega)) false [0, 116] (fun _ _ => ⟨by simp, gN⟩) rfl rfl rfl rfl rfl gQ rfl rfl) ?_; intro y hy) | (refine VR.rel hTb rfl rfl (o_relN (c_of hb _ _ _ (fun t => t.size ≤ 8) (by simp [strRows]; decide) (by simp) (by omega)) false [0, 122] (fun _ _ => ⟨by simp, gN⟩) rfl rfl rfl rfl rfl gQ rfl rfl) ?_; intro y hy)) <;> conv => whnf)
  all_goals exact endR [] (⟨_, _, _⟩, _) rfl rfl rfl rfl rfl (LeS.refl _) rfl rfl ⟨(by first | omega | decide | (simp_all; done) | (simp_all; omega)), (by first | omega | decide | (simp_all; done) | (simp_all; omega))⟩
theorem c_l1Draw {bs : List Int} (hb : BOk bs) (p : Nat) (hp : p ≤ 1099511500000) : CallsV Tryz.prog 66 [rdS] [rdO bs p]
    (relQ (fun y : Val × Nat => y.1.t.size ≤ 8 ∧ y.2 ≤ p + 5) (fun y => .agg (encVal y.1)) (fun y => [some (rdO bs y.2)]) (fun _ => [])) := by
  refine funF_walk hTb Tryz.func66 rfl rfl Tryz.ntmps66 (by simp) (by simp) ?_
  (conv => whnf); repeat' ((first | (refine VR.rel hTb rfl rfl (o_relN (c_pick hb _ _ (by omega)) false [0] (fun _ _ => ⟨by simp, gN⟩) rfl rfl rfl rfl rfl gQ rfl rfl) ?_; intro y hy) | (refine VR.rel hTb rfl rfl (o_relN (c_l1Some hb _ _ (by omega)) false [0] (fun _ _ => ⟨by simp, gN⟩) rfl rfl rfl rfl rfl gQ rfl rfl) ?_; rintro ⟨⟨k, n, t⟩, q⟩ hy; (try simp only at hy)) | (refine VR.rel hTb rfl rfl (o_relN (c_l1Bent hb _ ⟨_, _, _⟩ (by first | omega | decide | (simp_all; done) | (simp_all; omega)) (by omega)) false [0] (fun _ _ => ⟨by simp, gN⟩) rfl rfl rfl rfl rfl gQ rfl rfl) ?_; rintro ⟨⟨k, n, t⟩, q⟩ hy; (try simp only at hy))) <;> conv => whnf)
  all_goals exact endR [] (⟨_, _, _⟩, _) rfl rfl rfl rfl rfl (LeS.refl _) rfl rfl ⟨(by first | omega | decide | (simp_all; done) | (simp_all; omega)), (by first | omega | decide | (simp_all; done) | (simp_all; omega))⟩
structure Col where
  name : ByteArray
  kind : Int
  need : Bool
  once : Bool
  d : Val
def encCol : Col → List Leaf
  | ⟨name, kind, need, once, ⟨k, n, t⟩⟩ => [.g (.string name), .g (.int .i64 kind), .g (.bool need), .g (.bool once), .g (.int .i64 k), .g (.int .i64 n), .g (.string t)]
def Col.ok (c : Col) : Prop := c.name.size ≤ maxLen ∧ c.d.t.size ≤ maxLen
def colsI (cs : List Col) : Slot := .one (.imm 7 (cs.map encCol))
def valsI (cs : List Val) : Slot := .one (.imm 3 (cs.map encVal))
def letByte (c : Int) : Bool := decide (97 ≤ c ∧ c ≤ 122)
def letFrom (s : ByteArray) (i : Nat) : Bool := (List.range' i (s.size - i)).all fun j => letByte (sgetI s j)
theorem letFrom_step {s : ByteArray} {i : Nat} (h : i < s.size) : letFrom s i = (letByte (sgetI s i) && letFrom s (i + 1)) := by
  unfold letFrom
  rw [show s.size - i = (s.size - (i + 1)) + 1 by omega, List.range'_succ, List.all_cons]
theorem letFrom_end {s : ByteArray} {i : Nat} (h : s.size ≤ i) : letFrom s i = true := by
  unfold letFrom
  rw [show s.size - i = 0 by omega]; rfl
def nameOk (s : ByteArray) : Bool := letFrom s 0 && (decide (1 ≤ (s.size : Int)) && decide ((s.size : Int) ≤ 3))
theorem c_l2Name (s : ByteArray) (hs : s.size ≤ maxLen) : CallsV Tryz.prog 150 [.one (.g (.string s))] [] (pureQ (bS (nameOk s))) := by
  refine pure_walk hTb Tryz.func150 rfl rfl Tryz.ntmps150 (by simp) ?_
  (conv => whnf)
  refine VL.loopI hTb (fun i => i ≤ s.size ∧ letFrom s 0 = letFrom s i) (fun i => ⟨[(0, .one (.g (.string s))), (3, iS i)], [], []⟩) (fun i => s.size - i) 0 ⟨Nat.zero_le _, rfl⟩
    (wk_to [] rfl rfl rfl ⟨rfl, rfl, trivial⟩ trivial) (fun i hi => ?_)
  obtain ⟨hi, hf⟩ := hi
  (conv => whnf); repeat' ((first | (refine And.intro ?_ ?_ <;> ((try intro h) <;> (try simp only [Bool.not_true, Bool.not_false] at h) <;> first | exact absurd h gF | exact absurd h.symm gF | conv => whnf))) <;> conv => whnf)
  set_option linter.unusedSimpArgs false in
  all_goals (try simp only [Int.toNat_natCast, decide_eq_true_eq, decide_eq_false_iff_not, bne_iff_ne, bne_eq_false_iff_eq, beq_iff_eq, beq_eq_false_iff_ne, ne_eq, Int.ofNat_lt, Bool.not_true, Bool.not_false, Bool.not_eq_true, Bool.true_eq_false, Bool.false_eq_true, reduceCtorEq] at *)
  all_goals first
    | (refine Need.mk ?_; omega)
    | (refine ⟨i + 1, ⟨by omega, ?_⟩, by omega, wk_to [] rfl rfl rfl ⟨rfl, congrArg (fun x => Slot.one (.g (.int .i64 x))) (wrap64' (by omega)), trivial⟩ trivial⟩; rw [hf, letFrom_step (by omega), show letByte (sgetI s i) = true from decide_eq_true (by omega), Bool.true_and]; done)
    | (simp only [bS, nameOk, hf]; rw [letFrom_step (by omega), show letByte (sgetI s i) = false from decide_eq_false (by omega), Bool.false_and, Bool.false_and]; done)
    | (simp only [bS, nameOk, hf]; rw [letFrom_end (by omega), Bool.true_and]; simp_all; done)
    | (simp only [bS, nameOk, hf]; rw [letFrom_end (by omega), Bool.true_and]; simp_all; intros; omega)
theorem c_isName (s : ByteArray) (hs : s.size ≤ maxLen) : CallsV Tryz.prog 95 [.one (.g (.string s))] [] (pureQ (bS (nameOk s))) := by
  refine pure_walk hTb Tryz.func95 rfl rfl Tryz.ntmps95 (by simp) ?_
  (conv => whnf)
  refine VL.loopI hTb (fun i => i ≤ s.size ∧ letFrom s 0 = letFrom s i) (fun i => ⟨[(0, .one (.g (.string s))), (5, iS s.size), (6, iS i)], [], []⟩) (fun i => s.size - i) 0 ⟨Nat.zero_le _, rfl⟩
    (wk_to [] rfl rfl rfl ⟨rfl, rfl, rfl, trivial⟩ trivial) (fun i hi => ?_)
  obtain ⟨hi, hf⟩ := hi
  (conv => whnf); repeat' (first
    | (refine And.intro ?_ ?_ <;> ((try intro h) <;> (try simp only [Bool.not_true, Bool.not_false] at h) <;> first | exact absurd h gF | exact absurd h.symm gF | conv => whnf))
    | (refine VL.drawS hTb hMix (by kernel_rfl) (by kernel_rfl) (by kernel_rfl) ?_; conv => whnf)
    | (refine Need.mk ?_; kernel_rfl) | (refine Need.mk ⟨rfl, ?_⟩; decide)
    | (refine VR.pure hTb rfl rfl (o_purN (c_in _ _ _) rfl rfl rfl gQ rfl) ?_; conv => whnf)
    | (refine DT.pure hTb rfl (o_purN (c_in _ _ _) rfl rfl rfl gQ rfl) ?_; conv => whnf))
  set_option linter.unusedSimpArgs false in
  all_goals (try simp only [Int.toNat_natCast, decide_eq_true_eq, decide_eq_false_iff_not, bne_iff_ne, bne_eq_false_iff_eq, beq_iff_eq, beq_eq_false_iff_ne, ne_eq, Int.ofNat_lt, Bool.not_true, Bool.not_false, Bool.not_eq_true, Bool.true_eq_false, Bool.false_eq_true, reduceCtorEq] at *)
  all_goals first
    | (refine Need.mk ?_; omega)
    | (refine ⟨i + 1, ⟨by omega, ?_⟩, by omega, wk_to [] rfl rfl rfl ⟨rfl, rfl, congrArg (fun x => Slot.one (.g (.int .i64 x))) (wrap64' (by omega)), trivial⟩ trivial⟩; rw [hf, letFrom_step (by omega), show letByte (sgetI s i) = true from decide_eq_true (by omega), Bool.true_and]; done)
    | (simp only [bS, nameOk, hf]; rw [letFrom_step (by omega), show letByte (sgetI s i) = false from decide_eq_false (by omega), Bool.false_and, Bool.false_and]; done)
    | (simp only [bS, nameOk, hf]; rw [letFrom_end (by omega), Bool.true_and]; done)
theorem c_fits (v : Val) (n : Int) : CallsV Tryz.prog 144 [.agg (encVal v), iS n] [] (pureQ (bS (v.k == 0 || v.k == n))) := by
  refine pure_walk hTb Tryz.func144 rfl rfl Tryz.ntmps144 (by simp) ?_
  (conv => whnf); repeat' ((first | (refine And.intro ?_ ?_ <;> ((try intro h) <;> (try simp only [Bool.not_true, Bool.not_false] at h) <;> first | exact absurd h gF | exact absurd h.symm gF | conv => whnf))) <;> conv => whnf)
  all_goals simp_all [bS]
def colOk (c : Col) : Bool := nameOk c.name && (c.kind == 1 || c.kind == 2) && valOk c.d && (c.d.k == 0 || c.d.k == c.kind) && (!c.once || c.d.k == 0)
theorem c_specColOk (c : Col) (hc : c.ok) : CallsV Tryz.prog 147 [.agg (encCol c)] [] (pureQ (bS (colOk c))) := by
  refine pure_walk hTb Tryz.func147 rfl rfl Tryz.ntmps147 (by simp) ?_
  (conv => whnf); repeat' (first
    | (refine And.intro ?_ ?_ <;> ((try intro h) <;> (try simp only [Bool.not_true, Bool.not_false] at h) <;> first | exact absurd h gF | exact absurd h.symm gF | conv => whnf))
    | (refine VL.drawS hTb hMix (by kernel_rfl) (by kernel_rfl) (by kernel_rfl) ?_; conv => whnf)
    | (refine Need.mk ?_; kernel_rfl) | (refine Need.mk ⟨rfl, ?_⟩; decide)
    | (refine VR.pure hTb rfl rfl (o_purN (c_l2Name _ hc.1) rfl rfl rfl gQ rfl) ?_; conv => whnf)
    | (refine DT.pure hTb rfl (o_purN (c_l2Name _ hc.1) rfl rfl rfl gQ rfl) ?_; conv => whnf)
    | (refine VR.pure hTb rfl rfl (o_purN (c_specValOk c.d hc.2) rfl rfl rfl gQ rfl) ?_; conv => whnf)
    | (refine DT.pure hTb rfl (o_purN (c_specValOk c.d hc.2) rfl rfl rfl gQ rfl) ?_; conv => whnf))
  set_option linter.unusedSimpArgs false in
  all_goals (try simp only [Int.toNat_natCast, decide_eq_true_eq, decide_eq_false_iff_not, bne_iff_ne, bne_eq_false_iff_eq, beq_iff_eq, beq_eq_false_iff_ne, ne_eq, Int.ofNat_lt, Bool.not_true, Bool.not_false, Bool.not_eq_true, Bool.true_eq_false, Bool.false_eq_true, reduceCtorEq] at *)
  all_goals simp_all [bS, colOk]
theorem c_implColOk (c : Col) (hc : c.ok) : CallsV Tryz.prog 86 [.agg (encCol c)] [] (pureQ (bS (colOk c))) := by
  refine pure_walk hTb Tryz.func86 rfl rfl Tryz.ntmps86 (by simp) ?_
  (conv => whnf); repeat' (first
    | (refine And.intro ?_ ?_ <;> ((try intro h) <;> (try simp only [Bool.not_true, Bool.not_false] at h) <;> first | exact absurd h gF | exact absurd h.symm gF | conv => whnf))
    | (refine VL.drawS hTb hMix (by kernel_rfl) (by kernel_rfl) (by kernel_rfl) ?_; conv => whnf)
    | (refine Need.mk ?_; kernel_rfl) | (refine Need.mk ⟨rfl, ?_⟩; decide)
    | (refine VR.pure hTb rfl rfl (o_purN (c_isName _ hc.1) rfl rfl rfl gQ rfl) ?_; conv => whnf)
    | (refine DT.pure hTb rfl (o_purN (c_isName _ hc.1) rfl rfl rfl gQ rfl) ?_; conv => whnf)
    | (refine VR.pure hTb rfl rfl (o_purN (c_in _ _ _) rfl rfl rfl gQ rfl) ?_; conv => whnf)
    | (refine DT.pure hTb rfl (o_purN (c_in _ _ _) rfl rfl rfl gQ rfl) ?_; conv => whnf)
    | (refine VR.pure hTb rfl rfl (o_purN (c_implValOk c.d hc.2) rfl rfl rfl gQ rfl) ?_; conv => whnf)
    | (refine DT.pure hTb rfl (o_purN (c_implValOk c.d hc.2) rfl rfl rfl gQ rfl) ?_; conv => whnf)
    | (refine VR.pure hTb rfl rfl (o_purN (c_fits c.d _) rfl rfl rfl gQ rfl) ?_; conv => whnf)
    | (refine DT.pure hTb rfl (o_purN (c_fits c.d _) rfl rfl rfl gQ rfl) ?_; conv => whnf))
  set_option linter.unusedSimpArgs false in
  all_goals (try simp only [Int.toNat_natCast, decide_eq_true_eq, decide_eq_false_iff_not, bne_iff_ne, bne_eq_false_iff_eq, beq_iff_eq, beq_eq_false_iff_ne, ne_eq, Int.ofNat_lt, Bool.not_true, Bool.not_false, Bool.not_eq_true, Bool.true_eq_false, Bool.false_eq_true, reduceCtorEq] at *)
  all_goals (have e : (decide (1 ≤ c.kind) && decide (c.kind ≤ 2)) = (c.kind == 1 || c.kind == 2) := by
               rw [Bool.eq_iff_iff]; simp; omega)
  all_goals (simp only [e] at *)
  all_goals simp_all [bS, colOk]
def Val.ok (v : Val) : Prop := v.t.size ≤ maxLen
theorem rowVal {l : List Val} {i : Nat} (h : i < l.length) : (l.map encVal)[((i : Nat) : Int).toNat]? = some (encVal l[i]) := by rw [Int.toNat_natCast, List.getElem?_map, List.getElem?_eq_getElem h]; rfl
theorem rowCol {l : List Col} {i : Nat} (h : i < l.length) : (l.map encCol)[((i : Nat) : Int).toNat]? = some (encCol l[i]) := by rw [Int.toNat_natCast, List.getElem?_map, List.getElem?_eq_getElem h]; rfl
structure Change where
  kind : Int
  name : ByteArray
  new : ByteArray
  col : Col
def encChange : Change → List Leaf
  | ⟨kind, name, new, ⟨col_name, col_kind, col_need, col_once, ⟨col_d_k, col_d_n, col_d_t⟩⟩⟩ => [.g (.int .i64 kind), .g (.string name), .g (.string new), .g (.string col_name), .g (.int .i64 col_kind), .g (.bool col_need), .g (.bool col_once), .g (.int .i64 col_d_k), .g (.int .i64 col_d_n), .g (.string col_d_t)]
def Change.ok (v : Change) : Prop := v.name.size ≤ maxLen ∧ v.new.size ≤ maxLen ∧ v.col.ok
abbrev changesI (l : List Change) : Slot := .one (.imm 10 (l.map encChange))
theorem rowChange {l : List Change} {i : Nat} (h : i < l.length) : (l.map encChange)[((i : Nat) : Int).toNat]? = some (encChange l[i]) := by rw [Int.toNat_natCast, List.getElem?_map, List.getElem?_eq_getElem h]; rfl
structure VRow where
  id : Int
  ver : Int
  vals : List Val
def encVRow : VRow → List Leaf
  | ⟨id, ver, vals⟩ => [.g (.int .i64 id), .g (.int .i64 ver), .imm 3 (vals.map encVal)]
def VRow.ok (v : VRow) : Prop := (v.vals.length ≤ maxLen ∧ ∀ x ∈ v.vals, x.ok)
abbrev vrowsI (l : List VRow) : Slot := .one (.imm 3 (l.map encVRow))
theorem rowVRow {l : List VRow} {i : Nat} (h : i < l.length) : (l.map encVRow)[((i : Nat) : Int).toNat]? = some (encVRow l[i]) := by rw [Int.toNat_natCast, List.getElem?_map, List.getElem?_eq_getElem h]; rfl
structure VTable where
  first : List Col
  changes : List Change
  rows : List VRow
  next : Int
def encVTable : VTable → List Leaf
  | ⟨first, changes, rows, next⟩ => [.imm 7 (first.map encCol), .imm 10 (changes.map encChange), .imm 3 (rows.map encVRow), .g (.int .i64 next)]
def VTable.ok (v : VTable) : Prop := (v.first.length ≤ maxLen ∧ ∀ x ∈ v.first, x.ok) ∧ (v.changes.length ≤ maxLen ∧ ∀ x ∈ v.changes, x.ok) ∧ (v.rows.length ≤ maxLen ∧ ∀ x ∈ v.rows, x.ok)
structure VSet where
  name : ByteArray
  val : Val
def encVSet : VSet → List Leaf
  | ⟨name, ⟨val_k, val_n, val_t⟩⟩ => [.g (.string name), .g (.int .i64 val_k), .g (.int .i64 val_n), .g (.string val_t)]
def VSet.ok (v : VSet) : Prop := v.name.size ≤ maxLen ∧ v.val.ok
abbrev vsetsI (l : List VSet) : Slot := .one (.imm 4 (l.map encVSet))
theorem rowVSet {l : List VSet} {i : Nat} (h : i < l.length) : (l.map encVSet)[((i : Nat) : Int).toNat]? = some (encVSet l[i]) := by rw [Int.toNat_natCast, List.getElem?_map, List.getElem?_eq_getElem h]; rfl
structure VLink where
  src : ByteArray
  col : ByteArray
  dst : ByteArray
  how : Int
def encVLink : VLink → List Leaf
  | ⟨src, col, dst, how⟩ => [.g (.string src), .g (.string col), .g (.string dst), .g (.int .i64 how)]
def VLink.ok (v : VLink) : Prop := v.src.size ≤ maxLen ∧ v.col.size ≤ maxLen ∧ v.dst.size ≤ maxLen
abbrev vlinksI (l : List VLink) : Slot := .one (.imm 4 (l.map encVLink))
theorem rowVLink {l : List VLink} {i : Nat} (h : i < l.length) : (l.map encVLink)[((i : Nat) : Int).toNat]? = some (encVLink l[i]) := by rw [Int.toNat_natCast, List.getElem?_map, List.getElem?_eq_getElem h]; rfl
structure VTab where
  name : ByteArray
  table : VTable
def encVTab : VTab → List Leaf
  | ⟨name, ⟨table_first, table_changes, table_rows, table_next⟩⟩ => [.g (.string name), .imm 7 (table_first.map encCol), .imm 10 (table_changes.map encChange), .imm 3 (table_rows.map encVRow), .g (.int .i64 table_next)]
def VTab.ok (v : VTab) : Prop := v.name.size ≤ maxLen ∧ v.table.ok
abbrev vtabsI (l : List VTab) : Slot := .one (.imm 5 (l.map encVTab))
theorem rowVTab {l : List VTab} {i : Nat} (h : i < l.length) : (l.map encVTab)[((i : Nat) : Int).toNat]? = some (encVTab l[i]) := by rw [Int.toNat_natCast, List.getElem?_map, List.getElem?_eq_getElem h]; rfl
structure VBase where
  tabs : List VTab
  links : List VLink
def encVBase : VBase → List Leaf
  | ⟨tabs, links⟩ => [.imm 5 (tabs.map encVTab), .imm 4 (links.map encVLink)]
def VBase.ok (v : VBase) : Prop := (v.tabs.length ≤ maxLen ∧ ∀ x ∈ v.tabs, x.ok) ∧ (v.links.length ≤ maxLen ∧ ∀ x ∈ v.links, x.ok)
structure VRef where
  name : ByteArray
  id : Int
def encVRef : VRef → List Leaf
  | ⟨name, id⟩ => [.g (.string name), .g (.int .i64 id)]
def VRef.ok (v : VRef) : Prop := v.name.size ≤ maxLen
abbrev vrefsI (l : List VRef) : Slot := .one (.imm 2 (l.map encVRef))
theorem rowVRef {l : List VRef} {i : Nat} (h : i < l.length) : (l.map encVRef)[((i : Nat) : Int).toNat]? = some (encVRef l[i]) := by rw [Int.toNat_natCast, List.getElem?_map, List.getElem?_eq_getElem h]; rfl
structure VAct where
  kind : Int
  name : ByteArray
  id : Int
  sets : List VSet
  cols : List Col
  change : Change
  link : VLink
def VAct.ok (v : VAct) : Prop := v.name.size ≤ maxLen ∧ (v.sets.length ≤ maxLen ∧ ∀ x ∈ v.sets, x.ok) ∧ (v.cols.length ≤ maxLen ∧ ∀ x ∈ v.cols, x.ok) ∧ v.change.ok ∧ v.link.ok
end Go.Vl
