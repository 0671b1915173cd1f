/- Contracts of Go's library, taken over from what is laid of the shelf. -/
import Derived.Test.YtpimphfgjhejjaaDoorCb
import Derived.Test.YtpimphfgjhejjaaDoorWi
import Derived.Test.YtpimphfgjhejjaaDoorSh
namespace Go.Vl
open Go Go.RowKit Go.Proofs
set_option maxRecDepth 100000
set_option maxHeartbeats 400000

def strS (s : ByteArray) : Slot := .one (.g (.string s))
def bl (l : List UInt8) : ByteArray := ⟨l.toArray⟩
theorem lay_var {w : World} {n : String} {g : Nat} {Q : Array Value → Prop} (hg : Tryd.prog.globalNamed n = some g) (hm : (g, Q) ∈ layP) (hl : LayC w (fun _ => False)) : ∃ cs, w.var? Tryd.prog n = some cs ∧ Q cs := by
  obtain ⟨_, cs, E, m, h1, h2⟩ := hl _ hm
  exact ⟨cs, by simp [World.var?, hg, h1], h2⟩

theorem c_Itoa (n : Int) (h0 : -9223372036854775808 ≤ n) (h1 : n ≤ 9223372036854775807) : CallsV Tryd.prog 11 [iS n] [] (pureQ (strS (bl (Lib.itoa n)))) := by
  refine callsV_ext (vs := [.int .i64 n]) (ent_of Tryd.func11 rfl rfl) fun w hl => ?_
  obtain ⟨cs, hv, rfl⟩ := lay_var (n := "internal/strconv.uint64pow10") (by kernel_rfl) List.mem_cons_self hl
  refine (Tryd.strconv_Itoa n h0 h1 w hv).mono ?_
  rintro e w' ⟨rfl, k, os, rfl⟩
  exact ⟨_, rfl, ⟨rfl, rfl⟩, Lib.below_grow _ _ (Nat.le_refl _) _ _⟩
end Go.Vl
