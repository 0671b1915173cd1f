/- V-logic, part o: len, append. -/
import Derived.Test.YtiaendjdmnpcdaaVn
import Derived.Laws.Append
namespace Go.Vl
open Go Go.RowKit

section
variable {P : Program} {T : Tab} {S : St} {o : Oper} {C : Ctx} {B : Pl} {a : Act} {w : World}

theorem o_len_str (hT : TabOk P T) {X : Operand} {t : TypeId} (ho : o.op = .call { callee := .builtin .len, args := #[X], argTypes := #[t] }) {i : TI} (hi : T t = some i) (hd0 : i.d = .str) {s : ByteArray} (hX : ev S X = .one (.g (.string s))) :
    OpL P S o { dst := .one (.g (.int .i64 s.size)) } := by
  intro S' h1 h2 h3 C B a w hR hd
  have hX' := (h1 X (by simp [ho, Op.operands, Call.operands])).trans hX
  have hx := ev_g hR hX'
  exact good_val hR (rd := []) (p := True) hd (v := .int .i64 s.size) (by simp [execOp, ho, resolve, invoke, builtin, Builtin.len_, hx, run_underlying (und_str hT hi hd0), goInt]) (srepG rfl)

theorem o_len_sl (hT : TabOk P T) {X : Operand} {t : TypeId} (ho : o.op = .call { callee := .builtin .len, args := #[X], argTypes := #[t] }) {i : TI} {e : TypeId} (hi : T t = some i) (hd0 : i.d = .sl e) {l : Leaf} (hX : ev S X = .one l) {n : Nat}
    (hl : match l with | .own _ _ m => m = n | .imm _ rows => rows.length = n | .g (.slice _ m _) => m = n | _ => False) : OpL P S o { dst := .one (.g (.int .i64 n)) } := by
  intro S' h1 h2 h3 C B a w hR hd
  have hX' := (h1 X (by simp [ho, Op.operands, Call.operands])).trans hX
  have hr := ev_one hR hX'
  have key : ∃ A c, a.eval X = .slice A n c := by
    cases l with
    | own q off m =>
      have hl : m = n := hl
      obtain ⟨_, _, _, A, c, _, _, hv, _⟩ := hr; exact ⟨A, c, by rw [hv, hl]⟩
    | imm sz rows =>
      have hl : rows.length = n := hl
      have hr : RepL w (dep C.din S' B) (.imm sz rows) (a.eval X) := hr
      rw [RepL.eq_2] at hr; obtain ⟨A, c, hv, _⟩ := hr; exact ⟨A, c, by rw [hv, hl]⟩
    | g x =>
      have := ev_g hR hX'
      cases x with
      | slice A m c => have hl : m = n := hl; exact ⟨A, c, by rw [this, hl]⟩
      | _ => exact hl.elim
    | _ => exact hl.elim
  obtain ⟨A, c, hv⟩ := key
  exact good_val hR (rd := []) (p := True) hd (v := .int .i64 n) (by simp [execOp, ho, resolve, invoke, builtin, Builtin.len_, hv, run_underlying (und_sl hT hi hd0), goInt]) (srepG rfl)

def isNilSl : Value → Bool
  | .slice none 0 0 => true
  | _ => false
theorem isNilSl_eq {x : Value} (h : isNilSl x = true) : x = .slice none 0 0 := by
  unfold isNilSl at h; split at h
  · rfl
  · cases h

/-- The rows of a slice that is read. -/
def rowsAt (S : St) (sz : Nat) : Leaf → Option (List (List Leaf))
  | .own q off len => match S.obj q with
    | some (.arr _ s rows) => if s = sz then some ((rows.drop off).take len) else none
    | _ => none
  | .imm s rows => if s = sz then some rows else none
  | .g x => if isNilSl x then some [] else none
  | _ => none

/-- A slice of m rows whose cells are cs. -/
def Src (w : World) (sz : Nat) (v : Value) (m : Nat) (cs : List Value) : Prop :=
  ∃ A c, v = .slice A m c ∧ m ≤ c ∧ c ≤ maxLen ∧ cs.length = m * sz ∧ (∀ x ∈ cs, x.oneCell' = true) ∧ (m = 0 ∨ ∃ b : Addr, A = some b ∧ ∀ j x, cs[j]? = some x → w.cell? (b.add j) = some x)

theorem rows_src (hR : Rel C S B a w) {sz : Nat} {l : Leaf} {rows : List (List Leaf)} (hr : rowsAt S sz l = some rows) {v : Value} (h : LRep w C.din S B l v) :
    ∃ cs, Src w sz v rows.length cs ∧ ∀ (i : Nat) r, rows[i]? = some r → All2 (RepL w (dep C.din S B)) r ((cs.drop (i * sz)).take sz) := by
  cases l <;> simp only [rowsAt] at hr
  case g x =>
    split at hr
    · rename_i hx
      cases hr
      have : v = .slice none 0 0 := by rw [← isNilSl_eq hx]; exact repG_eq h
      exact ⟨[], ⟨none, 0, this, by simp, by simp, by simp, by simp, .inl rfl⟩, fun i r hi => by simp at hi⟩
    · cases hr
  case imm s rows' =>
    split at hr
    · rename_i hs
      cases hr; subst hs
      have h : RepL w (dep C.din S B) (.imm s rows) v := h
      rw [RepL.eq_2] at h
      obtain ⟨A, c, hv, h1, h2, h3⟩ := h
      rcases h3 with rfl | ⟨b, rfl, hd, hlt, hrs⟩
      · exact ⟨[], ⟨A, c, hv, by simp, h2, by simp, by simp, .inl rfl⟩, fun i r hi => by simp at hi⟩
      · -- the cells
        have hcell : ∀ i r, rows[i]? = some r → ∀ j, j < s → ∃ x l, r[j]? = some l ∧ w.cell? (b.add (i * s + j)) = some x ∧ RepL w (dep C.din S B) l x := by
          intro i r hi j hj
          obtain ⟨hlen, hrr⟩ := RepRs_get hrs i r hi
          obtain ⟨l, hl⟩ : ∃ l, r[j]? = some l := ⟨r[j]'(by omega), List.getElem?_eq_getElem (by omega)⟩
          obtain ⟨x, hx, hxr⟩ := RepR_get hrr j l hl
          exact ⟨x, l, hl, by simpa using hx, hxr⟩
        refine ⟨(List.range (rows.length * s)).map fun j => (w.cell? (b.add j)).getD undef, ⟨some b, c, hv, h1, h2, by simp, fun x hx => ?_, ?_⟩, fun i r hi => ?_⟩
        · simp at hx
          obtain ⟨j, hj, rfl⟩ := hx
          have hs0 : 0 < s := by
            rcases Nat.eq_zero_or_pos s with h | h
            · subst h; simp at hj
            · exact h
          have hil : j / s < rows.length := Nat.div_lt_of_lt_mul (by rw [Nat.mul_comm]; exact hj)
          obtain ⟨x, l, _, hx, hxr⟩ := hcell (j / s) _ (List.getElem?_eq_getElem hil) (j % s) (Nat.mod_lt _ hs0)
          rw [show j / s * s + j % s = j from by rw [Nat.mul_comm]; exact Nat.div_add_mod j s] at hx
          rw [hx]
          exact LRep.oneCell (RepL.lrep hxr)
        · right
          refine ⟨b, rfl, fun j x hj => ?_⟩
          have hjl : j < rows.length * s := by
            rcases Nat.lt_or_ge j (rows.length * s) with h | h
            · exact h
            · rw [List.getElem?_eq_none (by simp; omega)] at hj; cases hj
          rw [List.getElem?_map, List.getElem?_range hjl] at hj
          simp at hj
          subst hj
          have hs0 : 0 < s := by
            rcases Nat.eq_zero_or_pos s with h | h
            · subst h; simp at hjl
            · exact h
          have hil : j / s < rows.length := Nat.div_lt_of_lt_mul (by rw [Nat.mul_comm]; exact hjl)
          obtain ⟨x, l, _, hx, hxr⟩ := hcell (j / s) _ (List.getElem?_eq_getElem hil) (j % s) (Nat.mod_lt _ hs0)
          rw [show j / s * s + j % s = j from by rw [Nat.mul_comm]; exact Nat.div_add_mod j s] at hx
          rw [hx]; rfl
        · have hil : i < rows.length := (List.getElem?_eq_some_iff.1 hi).1
          have h6 : (i + 1) * s ≤ rows.length * s := Nat.mul_le_mul_right _ hil
          rw [Nat.succ_mul] at h6
          obtain ⟨hlen, _⟩ := RepRs_get hrs i r hi
          refine All2.of_get (by simp; omega) fun j l x hl hx => ?_
          have hj : j < s := by
            rcases Nat.lt_or_ge j s with h | h
            · exact h
            · rw [List.getElem?_eq_none (by omega)] at hl; cases hl
          obtain ⟨y, l', hl', hy, hyr⟩ := hcell i r hi j hj
          rw [hl] at hl'; cases hl'
          rw [List.getElem?_take, if_pos hj, List.getElem?_drop, List.getElem?_map, List.getElem?_range (by omega)] at hx
          simp [hy] at hx
          subst hx; exact hyr
    · cases hr
  case own q off len =>
    split at hr
    · rename_i E s rows' hq
      split at hr
      · rename_i hs
        cases hr; subst hs
        obtain ⟨E', sz', rows2, A, c, hq2, hlen, hv, hlc, hcm, hc⟩ := h
        rw [hq] at hq2; cases hq2
        have hl2 : ((rows'.drop off).take len).length = len := by simp; omega
        rw [hl2]
        rcases Nat.eq_zero_or_pos len with h0 | h0
        · subst h0
          exact ⟨[], ⟨A, c, hv, by omega, hcm, by simp, by simp, .inl rfl⟩, fun i r hi => by simp at hi⟩
        · rcases hc with hc0 | ⟨b, n, hb, hA, hroom⟩
          · omega
          · rcases hR.objs q _ hq with ⟨hr0, _⟩ | ⟨b', n', cs, hb', hh, hcn, hone, hle, hrows⟩
            · subst hr0; simp at hlen; omega
            · rw [hb] at hb'; cases hb'
              have h6 : (off + len) * s ≤ rows'.length * s := Nat.mul_le_mul_right _ hlen
              rw [Nat.add_mul] at h6
              refine ⟨(cs.toList.drop (off * s)).take (len * s), ⟨A, c, hv, hlc, hcm, by simp; omega, fun x hx => hone x (List.mem_of_mem_drop (List.mem_of_mem_take hx)), .inr ⟨_, hA, fun j x hj => ?_⟩⟩, fun i r hi => ?_⟩
              · rw [List.getElem?_take] at hj
                split at hj
                · rw [List.getElem?_drop] at hj
                  rw [add_mk, cell_blk hh]; simpa using hj
                · cases hj
              · rw [List.getElem?_take] at hi
                split at hi
                · rename_i hil
                  rw [List.getElem?_drop] at hi
                  have ha := hrows _ _ hi
                  have h7 : (i + 1) * s ≤ len * s := Nat.mul_le_mul_right _ hil
                  rw [Nat.succ_mul] at h7
                  have e : (((cs.toList.drop (off * s)).take (len * s)).drop (i * s)).take s = (cs.toList.drop ((off + i) * s)).take s := by
                    rw [List.drop_take, List.take_take, List.drop_drop, Nat.add_mul]
                    congr 1
                    omega
                  rw [e]; exact ha
                · cases hi
      · cases hr
    · cases hr
  all_goals cases hr

theorem run_first {w W : World} {sz m : Nat} {v : Value} {cs : List Value} (h : Src w sz v m cs) (hW : W.heap = w.heap) : (Builtin.firstCells sz m v).run P W = .ok cs.toArray W := by
  obtain ⟨A, c, rfl, _, _, hl, _, h0⟩ := h
  rcases h0 with rfl | ⟨b, rfl, hb⟩
  · have : cs = [] := List.eq_nil_of_length_eq_zero (by simpa using hl)
    subst this
    cases A with
    | none => rfl
    | some b => simp [Builtin.firstCells, loadCells, loadCellsFrom]
  · simp only [Builtin.firstCells]
    rw [← hl]
    exact run_loadCells_list W b cs fun j x hj => by
      have : W.cell? (b.add j) = w.cell? (b.add j) := by simp [World.cell?, hW]
      rw [this]; exact hb j x hj

theorem rowsAt_reads {S S' : St} {sz : Nat} {l : Leaf} (h : ∀ r ∈ refsL l, S'.obj r = S.obj r) : rowsAt S' sz l = rowsAt S sz l := by
  cases l <;> simp only [rowsAt]
  rw [h _ (by simp [refsL])]

-- equality of bools, of flat structs
theorem o_eqb (hT : TabOk P T) {op : BinOp} {t ty : TypeId} {X Y : Operand} (ho : o.op = .binOp op t X Y ty) {i : TI} (hi : T t = some i) (hd0 : i.d = .bool) {x y r : Bool} (hX : ev S X = .one (.g (.bool x))) (hY : ev S Y = .one (.g (.bool y)))
    (hr : (op = .eql ∧ r = (x == y)) ∨ (op = .neq ∧ r = !(x == y))) : OpL P S o { dst := .one (.g (.bool r)) } := by
  intro S' h1 h2 h3 C B a w hR hd
  have hX' := (h1 X (by simp [ho, Op.operands])).trans hX
  have hY' := (h1 Y (by simp [ho, Op.operands])).trans hY
  have hx := ev_g hR hX'
  have hy := ev_g hR hY'
  have hu := und_bool hT hi hd0
  refine good_val hR (rd := []) (p := True) hd (v := .bool r) ?_ (srepG rfl)
  have heq : (Op.equal t (.bool x) (.bool y)).run P w = .ok (x == y) w := by
    unfold Op.equal Op.maxDepth
    exact run_equalIn_bool' w 9999 t x y hu
  rcases hr with ⟨rfl, rfl⟩ | ⟨rfl, rfl⟩
  · simp [execOp, ho, hx, hy, eqGuard, binOp, heq]
  · simp [execOp, ho, hx, hy, eqGuard, binOp, heq]

def eqT : TD → Value → Value → Option Bool
  | .int _, .int k x, .int k' y => if k = k' then some (x == y) else none
  | .bool, .bool a, .bool b => some (a == b)
  | .str, .string a, .string b => some (a.toList == b.toList)
  | _, _, _ => none

def flatEq (T : Tab) : Nat → List Leaf → List Leaf → List (Nat × TypeId) → Option Bool
  | 0, _, _, _ => none
  | _ + 1, _, _, [] => some true
  | n + 1, xs, ys, (off, t) :: fs => match T t with
    | none => none
    | some i => match i.d.isAgg with
      | false => match xs[off]?, ys[off]? with
        | some (.g v), some (.g v') => match eqT i.d v v', flatEq T n xs ys fs with
          | some b, some r => some (b && r)
          | _, _ => none
        | _, _ => none
      | true => match i.eqf with
        | none => none
        | some fs' => match flatEq T n ((xs.drop off).take i.size) ((ys.drop off).take i.size) fs', flatEq T n xs ys fs with
          | some b, some r => some (b && r)
          | _, _ => none

theorem run_eqT (hT : TabOk P T) {t : TypeId} {i : TI} (hi : T t = some i) {v v' : Value} {b : Bool} (h : eqT i.d v v' = some b) (d : Nat) (w : World) : (Op.equalIn (d + 1) t v v').run P w = .ok b w := by
  unfold eqT at h
  split at h
  · rename_i hd
    split at h
    · rename_i hk; subst hk; cases h; exact run_equalIn_int w d t _ _ _ _ (und_int hT hi hd)
    · cases h
  · rename_i hd; cases h; exact run_equalIn_bool' w d t _ _ (und_bool hT hi hd)
  · rename_i hd; cases h; exact run_equalIn_string w d t _ _ (und_str hT hi hd)
  · cases h

theorem run_flatEq (hT : TabOk P T) {R : Leaf → Value → Prop} (hR : ∀ x v, R (.g x) v → v = x) (w : World) :
    ∀ (n : Nat) {xs ys : List Leaf} {vs us : Array Value} (fs : List (Nat × TypeId)) (fl : List Field) (d : Nat), n ≤ d → All2 R xs vs.toList → All2 R ys us.toList →
      fl.map (fun f => (f.name == "_", f.offset, f.type)) = fs.map (fun p => (false, p.1, p.2)) → ∀ {r : Bool}, flatEq T n xs ys fs = some r → (Op.eqFields (d + 1) vs us fl).run P w = .ok r w
  | 0, _, _, _, _, fs, fl, d, _, _, _, hm, r, h => by simp [flatEq] at h
  | n + 1, _, _, _, _, [], fl, d, _, _, _, hm, r, h => by
    cases fl with
    | nil => simp [flatEq] at h; subst h; rfl
    | cons => simp at hm
  | n + 1, xs, ys, vs, us, (off, t) :: fs, fl, d, hd, hx, hy, hm, r, h => by
    cases fl with
    | nil => simp at hm
    | cons f fl =>
      simp only [List.map_cons, List.cons.injEq, Prod.mk.injEq] at hm
      obtain ⟨⟨hn, ho, ht⟩, hm⟩ := hm
      have hname : f.name ≠ "_" := by simpa using hn
      have fin : ∀ {u u' : Value} {b r' : Bool}, (part f.type vs f.offset).run P w = .ok u w → (part f.type us f.offset).run P w = .ok u' w → (Op.equalIn (d + 1) f.type u u').run P w = .ok b w →
          flatEq T n xs ys fs = some r' → (Op.eqFields (d + 1) vs us (f :: fl)).run P w = .ok (b && r') w := by
        intro u u' b r' p1 p2 p3 hr
        have p4 := run_flatEq hT hR w n fs fl d (by omega) hx hy hm hr
        simp only [Op.eqFields, if_pos hname, Sem.run_bind, p1, p2, p3, Result.andThen_ok]
        cases b
        · simp
        · simpa using p4
      unfold flatEq at h
      split at h
      · cases h
      · rename_i i hi
        split at h
        · rename_i hagg
          split at h
          · rename_i v v' hxo hyo
            split at h
            · rename_i b r' hb hr
              cases h
              obtain ⟨u, hu, hru⟩ := hx.get off _ hxo
              obtain ⟨u', hu', hru'⟩ := hy.get off _ hyo
              have e1 := hR _ _ hru
              have e2 := hR _ _ hru'
              subst e1 e2
              refine fin (u := u) (u' := u') ?_ ?_ ?_ hr
              · have : vs[off]? = some u := by simpa using hu
                subst ho ht
                simp [part, hT.isAgg hi, hagg, this]
              · have : us[off]? = some u' := by simpa using hu'
                subst ho ht
                simp [part, hT.isAgg hi, hagg, this]
              · subst ht; exact run_eqT hT hi hb d w
            · cases h
          · cases h
        · rename_i hagg
          split at h
          · cases h
          · rename_i fs' hf
            split at h
            · rename_i b r' hb hr
              cases h
              obtain ⟨q1, q2, _, q4⟩ := hT.eqs t i fs' hi hf
              cases d with
              | zero => omega
              | succ d =>
                refine fin (u := .agg (vs.extract off (off + i.size))) (u' := .agg (us.extract off (off + i.size))) ?_ ?_ ?_ hr
                · subst ho ht; simp [part, hT.isAgg hi, hagg, hT.size hi]
                · subst ho ht; simp [part, hT.isAgg hi, hagg, hT.size hi]
                · subst ht
                  rw [run_equalIn_struct w (d + 1) _ _ _ q1 q2]
                  refine run_flatEq hT hR w n fs' _ d (by omega) ?_ ?_ q4 hb
                  · have := (hx.drop off).take i.size
                    simpa [Array.toList_extract, List.extract] using this
                  · have := (hy.drop off).take i.size
                    simpa [Array.toList_extract, List.extract] using this
            · cases h

theorem o_eqst (hT : TabOk P T) {op : BinOp} {t ty : TypeId} {X Y : Operand} (ho : o.op = .binOp op t X Y ty) {i : TI} (hi : T t = some i) {fs : List (Nat × TypeId)} (hf : i.eqf = some fs) {xs ys : List Leaf} (hX : ev S X = .agg xs) (hY : ev S Y = .agg ys)
    {b r : Bool} (hb : flatEq T 64 xs ys fs = some b) (hr : (op = .eql ∧ r = b) ∨ (op = .neq ∧ r = !b)) : OpL P S o { dst := .one (.g (.bool r)) } := by
  intro S' h1 h2 h3 C B a w hR hd
  have hX' := (h1 X (by simp [ho, Op.operands])).trans hX
  have hY' := (h1 Y (by simp [ho, Op.operands])).trans hY
  obtain ⟨vs, hv, hvs⟩ := ev_agg hR hX'
  obtain ⟨us, hu, hus⟩ := ev_agg hR hY'
  obtain ⟨q1, q2, q3, q4⟩ := hT.eqs t i fs hi hf
  have hrun : (Op.equalIn 10000 t (.agg vs) (.agg us)).run P w = .ok b w := by
    rw [run_equalIn_struct w 9999 t vs us q1 q2]
    exact run_flatEq hT (fun x v h => repG_eq h) w 64 fs _ 9998 (by omega) hvs hus q4 hb
  refine good_val hR (rd := []) (p := True) hd (v := .bool r) ?_ (srepG rfl)
  rcases hr with ⟨rfl, rfl⟩ | ⟨rfl, rfl⟩
  · simp [execOp, ho, hv, hu, run_eqGuard_agg w .eql t X Y vs us q3, run_eql_struct, hrun]
  · simp [execOp, ho, hv, hu, run_eqGuard_agg w .neq t X Y vs us q3, run_neq_struct, hrun]
end
end Go.Vl
