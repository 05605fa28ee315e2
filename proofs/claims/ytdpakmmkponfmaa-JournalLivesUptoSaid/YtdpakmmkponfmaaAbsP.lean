/-
 Plain data.
-/
import Derived.Tactics
import Derived.Laws.Sem
import Derived.KernelRfl
namespace Go.Abs

/-- plain data that nobody writes any more: one cell (fsl: in a block that was not there below m). -/
inductive P where
 | v (x : Value)
 | sl (n : Nat) (cs : List P)
 | fsl (m n : Nat) (cs : List P)
 | fptr (m : Nat) (p : P)

/-! ### how values lie -/
def e_i64 (x : Int) : List P := [.v (.int .i64 x)]
def e_i32 (x : Int) : List P := [.v (.int .i32 x)]
def e_i16 (x : Int) : List P := [.v (.int .i16 x)]
def e_i8 (x : Int) : List P := [.v (.int .i8 x)]
def e_u64 (x : Int) : List P := [.v (.int .u64 x)]
def e_u32 (x : Int) : List P := [.v (.int .u32 x)]
def e_u16 (x : Int) : List P := [.v (.int .u16 x)]
def e_u8 (x : Int) : List P := [.v (.int .u8 x)]
def e_bool (x : Bool) : List P := [.v (.bool x)]
def e_str (x : ByteArray) : List P := [.v (.string x)]
def e_sl {α : Type} (f : α → List P) (xs : List α) : List P := [.sl xs.length (xs.flatMap f)]
end Go.Abs
