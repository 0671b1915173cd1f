/- V-logic, part r: what runs by itself. -/
import Derived.Test.YtiaendjdmnpcdaaVqa
namespace Go.Vl
open Go Go.RowKit

/-- Arithmetic that asks nothing. -/
def aBin0 (op : BinOp) (x y : Value) : Option Value :=
  match op, x, y with
  | .quo, _, _ => none
  | .rem, _, _ => none
  | .add, .string _, .string _ => none
  | op, x, y => match aBin op x y with
    | some (_, v) => some v
    | none => none

theorem aBin0_ok {op : BinOp} {x y v : Value} (h : aBin0 op x y = some v) : ∃ p, aBin op x y = some (p, v) ∧ p := by
  unfold aBin0 at h
  split at h
  · cases h
  · cases h
  · cases h
  · rename_i h1 h2 h3
    split at h
    · rename_i p v' hb
      cases h
      refine ⟨p, hb, ?_⟩
      unfold aBin at hb
      split at hb <;> (try (split at hb)) <;> first
        | (simp only [Option.some.injEq, Prod.mk.injEq] at hb; obtain ⟨rfl, _⟩ := hb; trivial)
        | (exfalso; exact h1 rfl)
        | (exfalso; exact h2 rfl)
        | (exfalso; exact h3 _ _ rfl rfl rfl)
        | (exact absurd hb (by simp))
    · cases h

def allPtr : List Slot → Option (List Nat)
  | [] => some []
  | .one (.ptr q 0) :: l => (allPtr l).map (q :: ·)
  | _ => none
theorem allPtr_ok : ∀ {l : List Slot} {os : List Nat}, allPtr l = some os → l = os.map fun q => .one (.ptr q 0)
  | [], os, h => by simp [allPtr] at h; subst h; rfl
  | s :: l, os, h => by
    unfold allPtr at h
    split at h
    · rename_i heq; cases heq
    · rename_i q l' heq
      cases heq
      simp at h
      obtain ⟨os', h', rfl⟩ := h
      rw [allPtr_ok h']; rfl
    · cases h

def auto (T : Tab) (S : St) (o : Oper) : Option Eff :=
  match o.op with
  | .move x => some { dst := ev S x }
  | .assign x => some { dst := ev S x }
  | .pick c x y => match ev S c with
    | .one (.g (.bool true)) => some { dst := ev S x }
    | .one (.g (.bool false)) => some { dst := ev S y }
    | _ => none
  | .binOp op t x y _ => match ev S x, ev S y with
    | .one (.g (.bool a)), .one (.g (.bool b)) => match op, T t with
      | .eql, some ⟨.bool, _, _, _, _⟩ => some { dst := .one (.g (.bool (a == b))) }
      | .neq, some ⟨.bool, _, _, _, _⟩ => some { dst := .one (.g (.bool !(a == b))) }
      | _, _ => none
    | .one (.g a), .one (.g b) => match aBin0 op a b with
      | some v => some { dst := .one (.g v) }
      | none => none
    | .agg a, .agg b => match T t with
      | some ⟨_, _, _, _, some fs⟩ => match op, flatEq T 64 a b fs with
        | .eql, some r => some { dst := .one (.g (.bool r)) }
        | .neq, some r => some { dst := .one (.g (.bool !r)) }
        | _, _ => none
      | _ => none
    | _, _ => none
  | .unOp .not _ x => match ev S x with
    | .one (.g (.bool b)) => some { dst := .one (.g (.bool !b)) }
    | _ => none
  | .unOp .neg _ x => match ev S x with
    | .one (.g (.int k n)) => some { dst := .one (.g (.int k (k.wrap (0 - n)))) }
    | _ => none
  | .convert s t x => match T s, T t, ev S x with
    | some ⟨.int k', _, _, _, _⟩, some ⟨.int k, _, _, _, _⟩, .one (.g (.int k2 n)) => if k' = k2 then some { dst := .one (.g (.int k (k.wrap n))) } else none
    | _, _, _ => none
  | .load t A => match T t, ev S A with
    | some i, .one (.ptr q k) => match S.obj q with
      | some (.box ls) => if k + i.size ≤ ls.length ∧ k < ls.length then some { dst := cut i (ls.drop k), reads := [q] } else none
      | _ => none
    | some i, .one (.iel row k) => if k + i.size ≤ row.length ∧ k < row.length then some { dst := cut i (row.drop k) } else none
    | _, _ => none
  | .store t A X => match o.dst, T t, ev S A, leaves (ev S X) with
    | none, some i, .one (.ptr q k), some new => match S.obj q with
      | some (.box ls) => if new.length = i.size ∧ k + i.size ≤ ls.length then some { reads := [q], sets := [(q, .box (splice k new ls))] } else none
      | _ => none
    | _, _, _, _ => none
  | .box _ X => match o.dst, leaves (ev S X) with
    | some d, some ls => match S.obj (100 + d) with
      | none => some { dst := .one (.ptr (100 + d) 0), sets := [(100 + d, .box ls)] }
      | some _ => none
    | _, _ => none
  | .alloc E => match o.dst, T E with
    | some d, some i => match S.obj (100 + d) with
      | none => some { dst := .one (.ptr (100 + d) 0), sets := [(100 + d, .box (i.zero.map .g))] }
      | some _ => none
    | _, _ => none
  | .fieldAddr s x f => match T s with
    | some ⟨.st fs, _, _, _, _⟩ => match fs[f]? with
      | some (off, t) => match T t with
        | some j => if j.size = 0 then none else match ev S x with
          | .one (.ptr q k) => some { dst := .one (.ptr q (k + off)) }
          | .one (.elm q r k) => some { dst := .one (.elm q r (k + off)) }
          | .one (.iel row k) => some { dst := .one (.iel row (k + off)) }
          | _ => none
        | none => none
      | none => none
    | _ => none
  | .field s x f => match T s with
    | some ⟨.st fs, _, _, _, _⟩ => match fs[f]? with
      | some (off, t) => match T t, ev S x with
        | some j, .agg ls => if off + j.size ≤ ls.length ∧ off < ls.length then some { dst := cut j (ls.drop off) } else none
        | _, _ => none
      | none => none
    | _ => none
  | .nilCheck x => match ev S x with
    | .one (.ptr q k) => some { dst := .one (.ptr q k) }
    | .one (.elm q r k) => some { dst := .one (.elm q r k) }
    | .one (.iel r k) => some { dst := .one (.iel r k) }
    | .one (.clo f os) => some { dst := .one (.clo f os) }
    | _ => none
  | .extract x k => match ev S x with
    | .tup xs => match xs[k]? with
      | some (true, ls) => some { dst := .agg ls }
      | some (false, [l]) => some { dst := .one l }
      | _ => none
    | _ => none
  | .makeFunc (.func f) ⟨[]⟩ cap => match allPtr (cap.toList.map (ev S)) with
    | some os => some { dst := .one (.clo f os) }
    | none => none
  | .build t parts => match T t with
    | some ⟨.st fs, _, _, zero, _⟩ => match fs.all (fun p => (T p.2).isSome), partsA S parts.toList with
      | true, some ps => match fillA (placeA T fs) (zero.map .g) ps with
        | some out => some { dst := .agg out }
        | none => none
      | _, _ => none
    | _ => none
  | .buildSlice t len parts => match o.dst, T t with
    | some d, some ⟨.sl e, _, _, _, _⟩ => match T e, partsA S parts.toList with
      | some j, some ps => match rowsOf j.size ps 0, S.obj (100 + d) with
        | some rows, none => if ps.length = len ∧ len * j.size ≤ 16777216 ∧ 0 < j.size then some { dst := .one (.own (100 + d) 0 len), sets := [(100 + d, .arr e j.size rows)] } else none
        | _, _ => none
      | _, _ => none
    | _, _ => none
  | .call { callee := .builtin .len, args := ⟨[x]⟩, argTypes := ⟨[t]⟩ } => match T t, ev S x with
    | some ⟨.str, _, _, _, _⟩, .one (.g (.string s)) => some { dst := .one (.g (.int .i64 s.size)) }
    | some ⟨.sl _, _, _, _, _⟩, .one (.own _ _ m) => some { dst := .one (.g (.int .i64 m)) }
    | some ⟨.sl _, _, _, _, _⟩, .one (.imm _ rows) => some { dst := .one (.g (.int .i64 rows.length)) }
    | some ⟨.sl _, _, _, _, _⟩, .one (.g (.slice _ m _)) => some { dst := .one (.g (.int .i64 m)) }
    | _, _ => none
  | _ => none

theorem auto_ok {P : Program} {T : Tab} (hT : TabOk P T) {S : St} {o : Oper} {e : Eff} (h : auto T S o = some e) : OpL P S o e := by
  obtain ⟨dst, op, type, pos, after, guard⟩ := o
  unfold auto at h
  split at h <;> rename_i ho <;> simp only at ho
  · cases h; exact o_move (.inl ho) rfl
  · cases h; exact o_move (.inr ho) rfl
  · split at h
    · rename_i hc; cases h; exact o_pick ho hc rfl
    · rename_i hc; cases h; exact o_pick ho hc rfl
    · cases h
  · split at h
    · rename_i hx hy
      split at h
      · rename_i hi; cases h; exact o_eqb hT ho hi rfl hx hy (.inl ⟨rfl, rfl⟩)
      · rename_i hi; cases h; exact o_eqb hT ho hi rfl hx hy (.inr ⟨rfl, rfl⟩)
      · cases h
    · rename_i hx hy
      split at h
      · rename_i v hb
        cases h
        obtain ⟨p, h1, h2⟩ := aBin0_ok hb
        exact o_bin ho hx hy h1 h2
      · cases h
    · rename_i hx hy
      split at h
      · rename_i hi
        split at h
        · rename_i hb; cases h; exact o_eqst hT ho hi rfl hx hy hb (.inl ⟨rfl, rfl⟩)
        · rename_i hb; cases h; exact o_eqst hT ho hi rfl hx hy hb (.inr ⟨rfl, rfl⟩)
        · cases h
      · cases h
    · cases h
  · split at h
    · rename_i hx; cases h; exact o_not ho hx
    · cases h
  · split at h
    · rename_i hx; cases h; exact o_neg ho hx
    · cases h
  · split at h
    · rename_i hs ht hx
      split at h
      · rename_i hk; subst hk; cases h; exact o_conv_int hT ho hs rfl ht rfl hx
      · cases h
    · cases h
  · split at h
    · rename_i hi hA
      split at h
      · rename_i ls hq
        split at h
        · rename_i hk; cases h; exact o_load_box hT ho hi hA hq hk
        · cases h
      · cases h
    · rename_i hi hA
      split at h
      · rename_i hk; cases h; exact o_load_iel hT ho hi hA hk
      · cases h
    · cases h
  · split at h
    · rename_i hd hi hA hn
      split at h
      · rename_i ls hq
        split at h
        · rename_i hk; cases h; exact o_store_box hT ho hd hi hA hq rfl hn hk
        · cases h
      · cases h
    · cases h
  · split at h
    · rename_i d ls hd hl
      split at h
      · rename_i hq; cases h; exact o_box ho hq (by omega) rfl hl
      · cases h
    · cases h
  · split at h
    · rename_i d i hd hi
      split at h
      · rename_i hq; cases h; exact o_alloc hT ho hi hq (by omega)
      · cases h
    · cases h
  · split at h
    · rename_i hi
      split at h
      · rename_i hf
        split at h
        · rename_i hj
          split at h
          · cases h
          · rename_i hjs
            split at h
            · rename_i hx; cases h; exact o_fieldAddr_ptr hT ho hi rfl hf hj hjs hx
            · rename_i hx; cases h; exact o_fieldAddr_elm hT ho hi rfl hf hj hjs hx
            · rename_i hx; cases h; exact o_fieldAddr_iel hT ho hi rfl hf hj hjs hx
            · cases h
        · cases h
      · cases h
    · cases h
  · split at h
    · rename_i hi
      split at h
      · rename_i hf
        split at h
        · rename_i hj hx
          split at h
          · rename_i hk; cases h; exact o_field hT ho hi rfl hf hj hx hk
          · cases h
        · cases h
      · cases h
    · cases h
  · split at h
    · rename_i hx; cases h; exact o_nilCheck ho hx trivial
    · rename_i hx; cases h; exact o_nilCheck ho hx trivial
    · rename_i hx; cases h; exact o_nilCheck ho hx trivial
    · rename_i hx; cases h; exact o_nilCheck ho hx trivial
    · cases h
  · split at h
    · rename_i hx
      split at h
      · rename_i hk; cases h; exact o_extract ho hx (by rw [hk])
      · rename_i hk; cases h; exact o_extract ho hx (by rw [hk])
      · cases h
    · cases h
  · split at h
    · rename_i hc; cases h; exact o_func ho (allPtr_ok hc)
    · cases h
  · split at h
    · rename_i hi
      split at h
      · rename_i hfs hp
        split at h
        · rename_i hf; cases h; exact o_build hT ho hi rfl hfs hp hf
        · cases h
      · cases h
    · cases h
  · split at h
    · rename_i d _ _ _ _ _ hd hi
      split at h
      · rename_i hj hp
        split at h
        · rename_i hr hq
          split at h
          · rename_i hk; cases h; exact o_buildSlice hT ho hi rfl hj hp hr hk.1 hk.2.1 hk.2.2 hq (by omega)
          · cases h
        · cases h
      · cases h
    · cases h
  · split at h
    · rename_i ht hx; cases h; exact o_len_str hT ho ht rfl hx
    · rename_i ht hx; cases h; exact o_len_sl hT ho ht rfl hx rfl
    · rename_i ht hx; cases h; exact o_len_sl hT ho ht rfl hx rfl
    · rename_i ht hx; cases h; exact o_len_sl hT ho ht rfl hx rfl
    · cases h
  · cases h

/-- The number of a byte of a string. -/
def sgetI (s : ByteArray) (i : Nat) : Int := (((s[i]?).getD 0).toNat : Int)

/-- What runs by itself under a condition. -/
def autoC (T : Tab) (S : St) (o : Oper) : Option (Prop × Slot) :=
  match o.op with
  | .index t x i => match T t, ev S x, ev S i with
    | some ⟨.str, _, _, _, _⟩, .one (.g (.string s)), .one (.g (.int _ n)) => some (0 ≤ n ∧ n < s.size, .one (.g (.int .u8 (sgetI s n.toNat))))
    | _, _, _ => none
  | .indexAddr t x i => match T t, ev S x, ev S i with
    | some ⟨.sl e, _, _, _, _⟩, .one (.own q off len), .one (.g (.int _ n)) => match T e, S.obj q with
      | some j, some (.arr _ sz _) => some (j.size = sz ∧ 0 ≤ n ∧ n < len, .one (.elm q (off + n.toNat) 0))
      | _, _ => none
    | _, _, _ => none
  | .binOp .quo _ x y _ => match ev S x, ev S y with
    | .one (.g (.int k a)), .one (.g (.int k' b)) => some (k = k' ∧ b ≠ 0, .one (.g (.int k (k.wrap (a.tdiv b)))))
    | _, _ => none
  | .binOp .rem _ x y _ => match ev S x, ev S y with
    | .one (.g (.int k a)), .one (.g (.int k' b)) => some (k = k' ∧ b ≠ 0, .one (.g (.int k (a.tmod b))))
    | _, _ => none
  | .binOp .add _ x y _ => match ev S x, ev S y with
    | .one (.g (.string a)), .one (.g (.string b)) => some (a.size + b.size ≤ 9223372036854775807, .one (.g (.string (a ++ b))))
    | _, _ => none
  | _ => none

theorem autoC_ok {P : Program} {T : Tab} (hT : TabOk P T) {S : St} {o : Oper} {p : Prop} {s : Slot} (h : autoC T S o = some (p, s)) (hp : p) : ∃ rd, OpL P S o { dst := s, reads := rd } := by
  obtain ⟨dst, op, type, pos, after, guard⟩ := o
  unfold autoC at h
  split at h <;> rename_i ho <;> simp only at ho
  · split at h
    · rename_i s k n hi hx hI
      cases h
      have hlt : n.toNat < s.size := by omega
      refine ⟨[], o_index_str hT ho hi rfl hx hI hp.1 (c := (s[n.toNat]?).getD 0) ?_⟩
      rw [getElem?_pos s n.toNat hlt]; rfl
    · cases h
  · split at h
    · rename_i hi hx hI
      split at h
      · rename_i hj hq
        cases h
        exact ⟨_, o_index_own hT ho hi rfl hj hx hI hq hp.1 hp.2⟩
      · cases h
    · cases h
  · split at h
    · rename_i hx hy
      cases h
      obtain ⟨rfl, hb⟩ := hp
      exact ⟨[], o_bin ho hx hy (p := _ ≠ _) (by simp [aBin]) hb⟩
    · cases h
  · split at h
    · rename_i hx hy
      cases h
      obtain ⟨rfl, hb⟩ := hp
      exact ⟨[], o_bin ho hx hy (p := _ ≠ _) (by simp [aBin]) hb⟩
    · cases h
  · split at h
    · rename_i hx hy
      cases h
      exact ⟨[], o_bin ho hx hy (by simp only [aBin]) hp⟩
    · cases h
  · cases h

/-- As far as it goes by itself: the state, what is left. -/
def autoRun (T : Tab) (ops : Array Oper) : List Nat → St → St × List Nat
  | [], S => (S, [])
  | i :: l, S => match ops[i]? with
    | none => (S, i :: l)
    | some o => match guardOn ops S o with
      | some true => match auto T S o with
        | some e => autoRun T ops l (S.app o.dst e)
        | none => (S, i :: l)
      | some false => autoRun T ops l (S.put o.dst (.tup []))
      | none => (S, i :: l)

theorem vo_run {P : Program} {T : Tab} (hT : TabOk P T) {n : Nat} {ops : Array Oper} (hin : dstsIn n ops = true) {K : St → Prop} : ∀ {l : List Nat} {S S' : St} {l' : List Nat}, autoRun T ops l S = (S', l') → VO P n ops l' S' K → VO P n ops l S K
  | [], S, S', l', h, hk => by simp [autoRun] at h; obtain ⟨rfl, rfl⟩ := h; exact hk
  | i :: l, S, S', l', h, hk => by
    unfold autoRun at h
    split at h
    · cases h; exact hk
    · rename_i o ho
      split at h
      · rename_i hg
        split at h
        · rename_i e he
          exact vo_op hin ho hg (auto_ok hT he) (vo_run hT hin h hk)
        · cases h; exact hk
      · rename_i hg
        exact vo_off hin ho hg (vo_run hT hin h hk)
      · cases h; exact hk
end Go.Vl
