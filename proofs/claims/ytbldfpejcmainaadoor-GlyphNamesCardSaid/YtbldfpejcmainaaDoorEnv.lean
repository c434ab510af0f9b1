/- What the library's variables hold when a call begins: hypotheses of all contracts of this seat, kept by Below. -/
import Derived.Test.YtbldfpejcmainaaDoorProg
import Derived.Below
import Derived.WalkKit
import Derived.Deep.Draws
import Derived.Lib.Fields
namespace Go.Proofs.YtbldfpejcmainaaDoor
open Go.RowKit
/-- What the library's variables hold. -/
structure Env (w : World) : Prop where
  maxLen : ∃ m, w.cell? ⟨2, 0, none⟩ = some (.int .i64 m)
  space : ∀ c : Nat, c < 256 → w.cell? ⟨0, c, none⟩ = some (.int .u8 (if Lib.isSp (UInt8.ofNat c) then 1 else 0))
theorem cell_kept {w w' : World} (hb : Below w.heap.size w w') {a : Addr} {v : Value} (hc : w.cell? a = some v) : w'.cell? a = some v :=
  (hb.cell (World.block_lt_of_cell? w a hc)).trans hc
theorem Env.of {w w' : World} (h : Env w) (hb : Below w.heap.size w w') : Env w' where
  maxLen := h.maxLen.imp fun _ hm => cell_kept hb hm
  space := fun c hc => cell_kept hb (h.space c hc)
theorem Env.drewN {w : World} (h : Env w) (n : Nat) : Env (w.drewN n) := h.of ⟨rfl, rfl, rfl, Nat.le_refl _, fun _ _ => rfl⟩
end Go.Proofs.YtbldfpejcmainaaDoor
