/- Contracts: the reader of a code, what it draws. -/
import Derived.Test.YtddefkbmiicnbaaDoorWi
import Derived.Test.YtddefkbmiicnbaaDoorCb
namespace Go.Vl
open Go Go.RowKit Go.Proofs
set_option maxRecDepth 100000
set_option linter.unusedSimpArgs false
set_option linter.unusedVariables false
set_option maxHeartbeats 1000000

def bytesL (bs : List Int) : List (List Leaf) := bs.map fun b => [.g (.int .u8 b)]
def bytesI (bs : List Int) : Slot := .one (.imm 1 (bytesL bs))
def rdO (bs : List Int) (p : Nat) : Ob := .box [.imm 1 (bytesL bs), .g (.int .i64 p)]
def rdS : Slot := .one (.ptr 0 0)
structure BOk (bs : List Int) : Prop where
  b : ∀ x ∈ bs, 0 ≤ x ∧ x < 256
  l : bs.length ≤ 2000
def at0 (bs : List Int) (i : Nat) : Int := (bs[i]?).getD 0
theorem BOk.at0 {bs : List Int} (h : BOk bs) (i : Nat) : 0 ≤ at0 bs i ∧ at0 bs i < 256 := by
  unfold Vl.at0
  rcases Nat.lt_or_ge i bs.length with hl | hl
  · rw [List.getElem?_eq_getElem hl]; exact h.b _ (List.getElem_mem hl)
  · rw [List.getElem?_eq_none hl]; simp
theorem brow {bs : List Int} {n : Int} (h : n.toNat < bs.length) : (bytesL bs)[n.toNat]? = some [.g (.int .u8 (at0 bs n.toNat))] := by
  unfold bytesL at0
  rw [List.getElem?_map, List.getElem?_eq_getElem h]; rfl
theorem bytesL_len (bs : List Int) : (bytesL bs).length = bs.length := by simp [bytesL]

theorem wrapP {p : Nat} (h : p ≤ 1099511627776) : IntKind.i64.wrap ((p : Int) + 1) = ((p + 1 : Nat) : Int) := by
  rw [IntKind.wrap_i64]; omega

theorem rd_out {bs : List Int} {p : Nat} (hp : p ≤ 1099511627776) : [some (Ob.box [.imm 1 (bytesL bs), .g (.int .i64 (IntKind.i64.wrap ((p : Int) + 1)))])] = [some (rdO bs (p + 1))] := by rw [wrapP hp]; rfl
theorem tmod_rng {x n : Int} (h0 : 0 ≤ x) (hn : ¬ n < 1) : 0 ≤ x.tmod n ∧ (x.tmod n < n ∨ n < 1 ∧ x.tmod n = 0) := by
  have h1 := Int.tmod_nonneg n h0
  have h2 := Int.tmod_lt_of_pos x (show 0 < n by omega)
  exact ⟨h1, .inl h2⟩
theorem tmod_idx {bs : List Int} {x : Int} (h0 : 0 ≤ x) (hl : bs.length ≠ 0) : 0 ≤ x.tmod ((bytesL bs).length : Int) ∧ (x.tmod ((bytesL bs).length : Int)).toNat < bs.length := by
  rw [bytesL_len]
  have h1 := Int.tmod_nonneg (bs.length : Int) h0
  have h2 := Int.tmod_lt_of_pos x (show (0 : Int) < bs.length by omega)
  omega
theorem bits_pos {x y : Int} : 0 ≤ x → x < 4611686018427387904 → 0 ≤ y → y < 4611686018427387904 → 0 ≤ bits .xor .i64 x y := by
  intro h1 h2 h3 h4
  have a1 : (BitVec.ofInt 64 x).toNat < 2 ^ 62 := by rw [BitVec.toNat_ofInt]; omega
  have a2 : (BitVec.ofInt 64 y).toNat < 2 ^ 62 := by rw [BitVec.toNat_ofInt]; omega
  have a3 : (BitVec.ofInt 64 x ^^^ BitVec.ofInt 64 y).toNat < 2 ^ 62 := by rw [BitVec.toNat_xor]; exact Nat.xor_lt_two_pow a1 a2
  show 0 ≤ IntKind.i64.wrap ((BitVec.ofInt 64 x ^^^ BitVec.ofInt 64 y).toNat : Int)
  rw [IntKind.wrap_i64]; omega
theorem wr {x : Int} (h : 0 ≤ x ∧ x < 4611686018427387904) : IntKind.i64.wrap x = x := by rw [IntKind.wrap_i64]; omega
theorem mix_rng {a b p q : Int} (ha : 0 ≤ a ∧ a < 256) (hb : 0 ≤ b ∧ b < 256) (hp : 0 ≤ p ∧ p ≤ 1099511627776) (hq : 0 ≤ q ∧ q ≤ 1099511627776) :
    0 ≤ IntKind.i64.wrap (IntKind.i64.wrap (IntKind.i64.wrap (IntKind.i64.wrap (IntKind.i64.wrap a * 131) + IntKind.i64.wrap (IntKind.i64.wrap b * 1117)) + IntKind.i64.wrap (p * 29)) + IntKind.i64.wrap (IntKind.i64.wrap q * 53)) ∧
    IntKind.i64.wrap (IntKind.i64.wrap (IntKind.i64.wrap (IntKind.i64.wrap (IntKind.i64.wrap a * 131) + IntKind.i64.wrap (IntKind.i64.wrap b * 1117)) + IntKind.i64.wrap (p * 29)) + IntKind.i64.wrap (IntKind.i64.wrap q * 53)) < 4611686018427387904 := by
  rw [wr (x := a) (by omega), wr (x := b) (by omega), wr (x := a * 131) (by omega), wr (x := b * 1117) (by omega), wr (x := p * 29) (by omega), wr (x := q) (by omega), wr (x := q * 53) (by omega), wr (x := a * 131 + b * 1117) (by omega),
    wr (x := a * 131 + b * 1117 + p * 29) (by omega), wr (x := a * 131 + b * 1117 + p * 29 + q * 53) (by omega)]
  omega
theorem div_rng {p m : Int} (hp : 0 ≤ p) (hm : 1 ≤ m) : 0 ≤ p.tdiv m ∧ p.tdiv m ≤ p := by
  rw [Int.tdiv_eq_ediv_of_nonneg hp]
  exact ⟨Int.ediv_nonneg hp (by omega), Int.ediv_le_self m hp⟩

end Go.Vl
