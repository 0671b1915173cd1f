/- The data of the laws: types, how they lie as leaves. Printed by our own gends.py. -/
import Derived.Test.YtegjajojckbkjaaDoorCc
namespace Go.Vl
open Go Go.RowKit Go.Proofs
def Val.ok (v : Val) : Prop := v.t.size ≤ maxLen
def Val.sm (_ : Val) : Prop := True
theorem encVal_len (v : Val) : (encVal v).length = 3 := by obtain ⟨k, n, t⟩ := v; rfl
theorem rowVal {l : List Val} {i : Nat} (h : i < l.length) : (l.map encVal)[((i : Nat) : Int).toNat]? = some (encVal l[i]) := by rw [Int.toNat_natCast, List.getElem?_map, List.getElem?_eq_getElem h]; rfl
def Col.sm (v : Col) : Prop := v.d.sm
theorem encCol_len (v : Col) : (encCol v).length = 7 := by obtain ⟨name, kind, need, once, ⟨d_k, d_n, d_t⟩⟩ := v; rfl
theorem rowCol {l : List Col} {i : Nat} (h : i < l.length) : (l.map encCol)[((i : Nat) : Int).toNat]? = some (encCol l[i]) := by rw [Int.toNat_natCast, List.getElem?_map, List.getElem?_eq_getElem h]; rfl
structure Change where
  kind : Int
  name : ByteArray
  new : ByteArray
  col : Col
def encChange : Change → List Leaf
  | ⟨kind, name, new, ⟨col_name, col_kind, col_need, col_once, ⟨col_d_k, col_d_n, col_d_t⟩⟩⟩ => [.g (.int .i64 kind), .g (.string name), .g (.string new), .g (.string col_name), .g (.int .i64 col_kind), .g (.bool col_need), .g (.bool col_once), .g (.int .i64 col_d_k), .g (.int .i64 col_d_n), .g (.string col_d_t)]
def Change.ok (v : Change) : Prop := v.name.size ≤ maxLen ∧ v.new.size ≤ maxLen ∧ v.col.ok
def Change.sm (v : Change) : Prop := v.col.sm
abbrev changesI (l : List Change) : Slot := .one (.imm 10 (l.map encChange))
theorem encChange_len (v : Change) : (encChange v).length = 10 := by obtain ⟨kind, name, new, ⟨col_name, col_kind, col_need, col_once, ⟨col_d_k, col_d_n, col_d_t⟩⟩⟩ := v; rfl
theorem rowChange {l : List Change} {i : Nat} (h : i < l.length) : (l.map encChange)[((i : Nat) : Int).toNat]? = some (encChange l[i]) := by rw [Int.toNat_natCast, List.getElem?_map, List.getElem?_eq_getElem h]; rfl
structure VRow where
  id : Int
  ver : Int
  vals : List Val
def encVRow : VRow → List Leaf
  | ⟨id, ver, vals⟩ => [.g (.int .i64 id), .g (.int .i64 ver), .imm 3 (vals.map encVal)]
def VRow.ok (v : VRow) : Prop := (v.vals.length ≤ maxLen ∧ ∀ x ∈ v.vals, x.ok)
def VRow.sm (v : VRow) : Prop := (v.vals.length ≤ 1048576 ∧ ∀ x ∈ v.vals, x.sm)
abbrev vrowsI (l : List VRow) : Slot := .one (.imm 3 (l.map encVRow))
theorem encVRow_len (v : VRow) : (encVRow v).length = 3 := by obtain ⟨id, ver, vals⟩ := v; rfl
theorem rowVRow {l : List VRow} {i : Nat} (h : i < l.length) : (l.map encVRow)[((i : Nat) : Int).toNat]? = some (encVRow l[i]) := by rw [Int.toNat_natCast, List.getElem?_map, List.getElem?_eq_getElem h]; rfl
structure VTable where
  first : List Col
  changes : List Change
  rows : List VRow
  next : Int
def encVTable : VTable → List Leaf
  | ⟨first, changes, rows, next⟩ => [.imm 7 (first.map encCol), .imm 10 (changes.map encChange), .imm 3 (rows.map encVRow), .g (.int .i64 next)]
def VTable.ok (v : VTable) : Prop := (v.first.length ≤ maxLen ∧ ∀ x ∈ v.first, x.ok) ∧ (v.changes.length ≤ maxLen ∧ ∀ x ∈ v.changes, x.ok) ∧ (v.rows.length ≤ maxLen ∧ ∀ x ∈ v.rows, x.ok)
def VTable.sm (v : VTable) : Prop := (v.first.length ≤ 1048576 ∧ ∀ x ∈ v.first, x.sm) ∧ (v.changes.length ≤ 1048576 ∧ ∀ x ∈ v.changes, x.sm) ∧ (v.rows.length ≤ 1048576 ∧ ∀ x ∈ v.rows, x.sm)
abbrev vtablesI (l : List VTable) : Slot := .one (.imm 4 (l.map encVTable))
theorem encVTable_len (v : VTable) : (encVTable v).length = 4 := by obtain ⟨first, changes, rows, next⟩ := v; rfl
theorem rowVTable {l : List VTable} {i : Nat} (h : i < l.length) : (l.map encVTable)[((i : Nat) : Int).toNat]? = some (encVTable l[i]) := by rw [Int.toNat_natCast, List.getElem?_map, List.getElem?_eq_getElem h]; rfl
structure VSet where
  name : ByteArray
  val : Val
def encVSet : VSet → List Leaf
  | ⟨name, ⟨val_k, val_n, val_t⟩⟩ => [.g (.string name), .g (.int .i64 val_k), .g (.int .i64 val_n), .g (.string val_t)]
def VSet.ok (v : VSet) : Prop := v.name.size ≤ maxLen ∧ v.val.ok
def VSet.sm (v : VSet) : Prop := v.val.sm
abbrev vsetsI (l : List VSet) : Slot := .one (.imm 4 (l.map encVSet))
theorem encVSet_len (v : VSet) : (encVSet v).length = 4 := by obtain ⟨name, ⟨val_k, val_n, val_t⟩⟩ := v; rfl
theorem rowVSet {l : List VSet} {i : Nat} (h : i < l.length) : (l.map encVSet)[((i : Nat) : Int).toNat]? = some (encVSet l[i]) := by rw [Int.toNat_natCast, List.getElem?_map, List.getElem?_eq_getElem h]; rfl
structure VLink where
  src : ByteArray
  col : ByteArray
  dst : ByteArray
  how : Int
def encVLink : VLink → List Leaf
  | ⟨src, col, dst, how⟩ => [.g (.string src), .g (.string col), .g (.string dst), .g (.int .i64 how)]
def VLink.ok (v : VLink) : Prop := v.src.size ≤ maxLen ∧ v.col.size ≤ maxLen ∧ v.dst.size ≤ maxLen
def VLink.sm (_ : VLink) : Prop := True
abbrev vlinksI (l : List VLink) : Slot := .one (.imm 4 (l.map encVLink))
theorem encVLink_len (v : VLink) : (encVLink v).length = 4 := by obtain ⟨src, col, dst, how⟩ := v; rfl
theorem rowVLink {l : List VLink} {i : Nat} (h : i < l.length) : (l.map encVLink)[((i : Nat) : Int).toNat]? = some (encVLink l[i]) := by rw [Int.toNat_natCast, List.getElem?_map, List.getElem?_eq_getElem h]; rfl
structure VTab where
  name : ByteArray
  table : VTable
def encVTab : VTab → List Leaf
  | ⟨name, ⟨table_first, table_changes, table_rows, table_next⟩⟩ => [.g (.string name), .imm 7 (table_first.map encCol), .imm 10 (table_changes.map encChange), .imm 3 (table_rows.map encVRow), .g (.int .i64 table_next)]
def VTab.ok (v : VTab) : Prop := v.name.size ≤ maxLen ∧ v.table.ok
def VTab.sm (v : VTab) : Prop := v.table.sm
abbrev vtabsI (l : List VTab) : Slot := .one (.imm 5 (l.map encVTab))
theorem encVTab_len (v : VTab) : (encVTab v).length = 5 := by obtain ⟨name, ⟨table_first, table_changes, table_rows, table_next⟩⟩ := v; rfl
theorem rowVTab {l : List VTab} {i : Nat} (h : i < l.length) : (l.map encVTab)[((i : Nat) : Int).toNat]? = some (encVTab l[i]) := by rw [Int.toNat_natCast, List.getElem?_map, List.getElem?_eq_getElem h]; rfl
structure VBase where
  tabs : List VTab
  links : List VLink
def encVBase : VBase → List Leaf
  | ⟨tabs, links⟩ => [.imm 5 (tabs.map encVTab), .imm 4 (links.map encVLink)]
def VBase.ok (v : VBase) : Prop := (v.tabs.length ≤ maxLen ∧ ∀ x ∈ v.tabs, x.ok) ∧ (v.links.length ≤ maxLen ∧ ∀ x ∈ v.links, x.ok)
def VBase.sm (v : VBase) : Prop := (v.tabs.length ≤ 1048576 ∧ ∀ x ∈ v.tabs, x.sm) ∧ (v.links.length ≤ 1048576 ∧ ∀ x ∈ v.links, x.sm)
abbrev vbasesI (l : List VBase) : Slot := .one (.imm 2 (l.map encVBase))
theorem encVBase_len (v : VBase) : (encVBase v).length = 2 := by obtain ⟨tabs, links⟩ := v; rfl
theorem rowVBase {l : List VBase} {i : Nat} (h : i < l.length) : (l.map encVBase)[((i : Nat) : Int).toNat]? = some (encVBase l[i]) := by rw [Int.toNat_natCast, List.getElem?_map, List.getElem?_eq_getElem h]; rfl
structure VRef where
  name : ByteArray
  id : Int
def encVRef : VRef → List Leaf
  | ⟨name, id⟩ => [.g (.string name), .g (.int .i64 id)]
def VRef.ok (v : VRef) : Prop := v.name.size ≤ maxLen
def VRef.sm (_ : VRef) : Prop := True
abbrev vrefsI (l : List VRef) : Slot := .one (.imm 2 (l.map encVRef))
theorem encVRef_len (v : VRef) : (encVRef v).length = 2 := by obtain ⟨name, id⟩ := v; rfl
theorem rowVRef {l : List VRef} {i : Nat} (h : i < l.length) : (l.map encVRef)[((i : Nat) : Int).toNat]? = some (encVRef l[i]) := by rw [Int.toNat_natCast, List.getElem?_map, List.getElem?_eq_getElem h]; rfl
structure VAct where
  kind : Int
  name : ByteArray
  id : Int
  sets : List VSet
  cols : List Col
  change : Change
  link : VLink
def encVAct : VAct → List Leaf
  | ⟨kind, name, id, sets, cols, ⟨change_kind, change_name, change_new, ⟨change_col_name, change_col_kind, change_col_need, change_col_once, ⟨change_col_d_k, change_col_d_n, change_col_d_t⟩⟩⟩, ⟨link_src, link_col, link_dst, link_how⟩⟩ => [.g (.int .i64 kind), .g (.string name), .g (.int .i64 id), .imm 4 (sets.map encVSet), .imm 7 (cols.map encCol), .g (.int .i64 change_kind), .g (.string change_name), .g (.string change_new), .g (.string change_col_name), .g (.int .i64 change_col_kind), .g (.bool change_col_need), .g (.bool change_col_once), .g (.int .i64 change_col_d_k), .g (.int .i64 change_col_d_n), .g (.string change_col_d_t), .g (.string link_src), .g (.string link_col), .g (.string link_dst), .g (.int .i64 link_how)]
def VAct.ok (v : VAct) : Prop := v.name.size ≤ maxLen ∧ (v.sets.length ≤ maxLen ∧ ∀ x ∈ v.sets, x.ok) ∧ (v.cols.length ≤ maxLen ∧ ∀ x ∈ v.cols, x.ok) ∧ v.change.ok ∧ v.link.ok
def VAct.sm (v : VAct) : Prop := (v.sets.length ≤ 1048576 ∧ ∀ x ∈ v.sets, x.sm) ∧ (v.cols.length ≤ 1048576 ∧ ∀ x ∈ v.cols, x.sm) ∧ v.change.sm ∧ v.link.sm
abbrev vactsI (l : List VAct) : Slot := .one (.imm 19 (l.map encVAct))
theorem encVAct_len (v : VAct) : (encVAct v).length = 19 := by obtain ⟨kind, name, id, sets, cols, ⟨change_kind, change_name, change_new, ⟨change_col_name, change_col_kind, change_col_need, change_col_once, ⟨change_col_d_k, change_col_d_n, change_col_d_t⟩⟩⟩, ⟨link_src, link_col, link_dst, link_how⟩⟩ := v; rfl
theorem rowVAct {l : List VAct} {i : Nat} (h : i < l.length) : (l.map encVAct)[((i : Nat) : Int).toNat]? = some (encVAct l[i]) := by rw [Int.toNat_natCast, List.getElem?_map, List.getElem?_eq_getElem h]; rfl
end Go.Vl
