/- Contracts of Go's library, taken over from what is laid of the shelf. -/
import Derived.Test.YtegjajojckbkjaaDoorCb
import Derived.Test.YtegjajojckbkjaaDoorWi
import Derived.Test.YtegjajojckbkjaaDoorSh
namespace Go.Vl
open Go Go.RowKit Go.Proofs
set_option maxRecDepth 100000
set_option linter.unusedSimpArgs false
set_option linter.unusedVariables false
set_option maxHeartbeats 400000

def bl (l : List UInt8) : ByteArray := ⟨l.toArray⟩
theorem lay_var {w : World} {n : String} {g : Nat} {Q : Array Value → Prop} (hg : Tryd.prog.globalNamed n = some g) (hm : (g, Q) ∈ layP) (hl : LayC w (fun _ => False)) : ∃ cs, w.var? Tryd.prog n = some cs ∧ Q cs := by
  obtain ⟨_, cs, E, m, h1, h2⟩ := hl _ hm
  exact ⟨cs, by simp [World.var?, hg, h1], h2⟩

theorem c_Itoa (n : Int) (h0 : -9223372036854775808 ≤ n) (h1 : n ≤ 9223372036854775807) : CallsV Tryd.prog 106 [iS n] [] (pureQ (strS (bl (Lib.itoa n)))) := by
  refine callsV_ext (vs := [.int .i64 n]) (ent_of Tryd.func106 rfl rfl) fun w hl => ?_
  obtain ⟨cs, hv, rfl⟩ := lay_var (n := "internal/strconv.uint64pow10") (by kernel_rfl) List.mem_cons_self hl
  refine (Tryd.strconv_Itoa n h0 h1 w hv).mono ?_
  rintro e w' ⟨rfl, k, os, rfl⟩
  exact ⟨_, rfl, ⟨rfl, rfl⟩, Lib.below_grow _ _ (Nat.le_refl _) _ _⟩
def atoiS (s : ByteArray) : Slot :=
  match Lib.atoiAll s.data.toList with
  | .ok v => .tup [(false, [.g (.int .i64 v)]), (false, [.g .nilIface])]
  | .range => .tup [(false, [.g (.int .i64 (Lib.atoiSat s.data.toList))]), (false, [.err])]
  | _ => .tup [(false, [.g (.int .i64 0)]), (false, [.err])]
theorem out_pair {x : Value} {l : Leaf} {u : Value} (hx : x.oneCell' = true) (hu : outL l u) : SRep outL (.tup [(false, [.g x]), (false, [l])]) (.tuple #[x, u]) :=
  ⟨_, rfl, ⟨.inr ⟨rfl, _, rfl, rfl, hx⟩, .inr ⟨rfl, _, rfl, hu⟩, trivial⟩⟩
theorem c_Atoi (s : ByteArray) (hs : s.size ≤ 281474976710656) : CallsV Tryd.prog 113 [strS s] [] (pureQ (atoiS s)) := by
  refine callsV_ext (vs := [.string s]) (ent_of Tryd.func113 rfl rfl) fun w hl => ?_
  unfold atoiS
  rcases h : Lib.atoiAll s.data.toList with v | _ | _
  · refine (Tryd.strconv_Atoi_ok s (by omega) v h w).mono ?_
    rintro e w' ⟨rfl, hw⟩
    refine ⟨_, rfl, out_pair rfl ⟨rfl, rfl⟩, ?_⟩
    rcases hw with rfl | ⟨t, rfl⟩
    · exact Below.refl _ _
    · exact Lib.bytesWorld_below _ _ _
  · obtain ⟨cs, hv, tp, p, rfl⟩ := lay_var (n := "strconv.ErrSyntax") (by kernel_rfl) (List.mem_cons_of_mem _ List.mem_cons_self) hl
    refine (Any.strconv_Atoi_syntax_var Tryd.laysAtoi s hs h tp p w hv).mono ?_
    rintro e w' ⟨N, rfl, _, _, hb⟩
    exact ⟨_, rfl, out_pair rfl ⟨_, _, rfl⟩, hb⟩
  · obtain ⟨cs, hv, tp, p, rfl⟩ := lay_var (n := "strconv.ErrRange") (by kernel_rfl) (List.mem_cons_of_mem _ (List.mem_cons_of_mem _ List.mem_cons_self)) hl
    refine (Tryd.strconv_Atoi_range_var s hs h tp p w hv).mono ?_
    rintro e w' ⟨N, rfl, _, _, hb⟩
    exact ⟨_, rfl, out_pair rfl ⟨_, _, rfl⟩, hb⟩
end Go.Vl
