/- Contracts: how great things are, texts counted too; copies that may be written; marks, and marks that are held. Parts printed by genmk.py. Laws: columns and rows behind changes: the program's are the reference's; what it gives back is its own. Laws of tables: how great a table is; the program's TableOk is the reference's. Contracts: tables in memory of their own: copied, marked, held. -/
import Derived.Test.YtdijjjgplhbkkaaGreatDoorJEa
import Derived.Test.YtdijjjgplhbkkaaGreatDoorJEe
import Derived.Test.YtdijjjgplhbkkaaGreatDoorJEg
import Derived.Test.YtdijjjgplhbkkaaGreatDoorJEc
import Derived.Test.YtdijjjgplhbkkaaGreatDoorJEf
import Derived.Test.YtdijjjgplhbkkaaGreatDoorWj
set_option linter.unusedSimpArgs false
set_option linter.unusedVariables false
set_option linter.unnecessarySimpa false
set_option maxRecDepth 100000
set_option maxHeartbeats 16000000

namespace Go.Vl
open Go Go.RowKit Go.Proofs
theorem w3 (k : Nat) : (k : Int).tmod 3 = ((k % 3 : Nat) : Int) := rfl
theorem mdv_ok {l : List Val} (h : mdVals l) : ∀ v ∈ l, v.ok := fun v hv => by have : v.t.size ≤ 1048576 := h v hv; show v.t.size ≤ maxLen; unfold maxLen; omega
theorem lmax {n : Nat} (h : n ≤ 3000000) : n ≤ maxLen := by unfold maxLen; omega
theorem fzH (x : List Change) : ((x.map encChange).drop 0).take x.length = x.map encChange := by rw [List.drop_zero, List.take_of_length_le (by simp)]
theorem Change.md.ok {c : Change} (h : c.md) : c.ok := ⟨by have := h.1; unfold maxLen; omega, by have := h.2.1; unfold maxLen; omega, by have := h.2.2.1; unfold maxLen; omega, by have := h.2.2.2; show c.col.d.t.size ≤ maxLen; unfold maxLen; omega⟩
theorem md_ok {t : VTable} (h : t.md) : t.ok :=
  ⟨⟨by have := h.fc; unfold maxLen; omega, h.fm.ok⟩, ⟨by have := h.fc; unfold maxLen; omega, fun x hx => (h.cm x hx).ok⟩, ⟨by have := h.r; unfold maxLen; omega, fun x hx => ⟨by have := (h.rm x hx).1; unfold maxLen; omega, mdv_ok (h.rm x hx).2⟩⟩⟩
def encVRowN : VRow → List Leaf
  | ⟨id, ver, vals⟩ => [.g (.int .i64 id), .g (.int .i64 ver), .nst 37 3 (vals.map encVal)]
theorem unN_Val (v : Val) : unNs (encVal v) = encVal v := by obtain ⟨a, b, c⟩ := v; rfl
theorem unN_VRow (r : VRow) : unNs (encVRowN r) = encVRow r := by
  obtain ⟨id, ver, vals⟩ := r
  show [Leaf.g (.int .i64 id), Leaf.g (.int .i64 ver), Leaf.imm 3 (unNss (vals.map encVal))] = _
  rw [unNss_map, List.map_congr_left fun v _ => unN_Val v]; rfl
theorem unN_VRows (l : List VRow) : unNss (l.map encVRowN) = l.map encVRow := by rw [unNss_map, List.map_congr_left fun v _ => unN_VRow v]
theorem plainVals (l : List Val) : ∀ r ∈ l.map encVal, plain r = true := by
  intro r hr
  obtain ⟨v, _, rfl⟩ := List.mem_map.1 hr
  obtain ⟨a, b, c⟩ := v; rfl
abbrev tabS (t : VTable) : Slot := .agg [.own 0 0 t.first.length, .own 1 0 t.changes.length, .own 2 0 t.rows.length, .g (.int .i64 t.next)]
abbrev tabO (t : VTable) : List Ob := [.arr 39 7 (t.first.map encCol), .arr 105 10 (t.changes.map encChange), .reg 35 3 (t.rows.map encVRowN) []]
section
variable {P : Program} {T : Tab} {S : St} {o : Oper}
theorem o_load_outL (hT : TabOk P T) {t : TypeId} {A : Operand} (ho : o.op = .load t A) {i : TI} (hi : T t = some i) (hg : i.d.isAgg = false) {q r j v E sz : Nat} {rows : List (List Leaf)} {hs : List (Nat × Nat × Leaf)} {row : List Leaf} {E2 sz2 len : Nat} {rows2 : List (List Leaf)} (hA : ev S A = .one (.elm q r j))
    (hq : S.obj q = some (.reg E sz rows hs)) (hrow : rows[r]? = some row) (hl : row[j]? = some (.nst E2 sz2 rows2)) (hlen : rows2.length = len) (hh : holeAt hs r j = none) (hv : S.obj v = none) (hv1 : 100 ≤ v) {ob2 : Ob} (ho2 : ob2 = .reg E2 sz2 rows2 [] ∨ (ob2 = .arr E2 sz2 rows2 ∧ ∀ r ∈ rows2, plain r = true)) :
    OpL P S o { dst := .one (.own v 0 len), reads := [q], sets := [(q, .reg E sz rows ((r, j, .own v 0 len) :: hs)), (v, ob2)] } := by
  subst hlen
  exact o_load_out hT ho hi hg hA hq hrow hl hh hv hv1 ho2
end
def rowsW : List Nat → Nat
  | [] => 0
  | n :: ns => 2 + 3 * n + rowsW ns
abbrev lens (l : List VRow) : List Nat := l.map fun r => r.vals.length
def tabW (n c : Nat) (ns : List Nat) : Nat := 7 * n + 10 * c + rowsW ns
end Go.Vl
