/- The seat s1: states, the answers of the program and of the reference. -/
import Derived.Test.YtaddmokllmdngaaM1
namespace Go.Proofs.Ytaddmokllmdngaa
open Go Go.Pv Go.RowKit
set_option linter.unusedSimpArgs false
set_option linter.unusedVariables false
set_option maxRecDepth 10000
set_option exponentiation.threshold 2000

/-- A state's parts. -/
structure SV where
  r : Int
  c : Int
  x : Int
  k : Int
  i : Int
  f : Nat
  s : ByteArray
  k' : Int
  i' : Int
  f' : Nat
  s' : ByteArray
structure SV.Ok (v : SV) : Prop where
  r : i64R v.r
  c : i64R v.c
  x : in128 v.x
def stC (v : SV) : List DV := [.int .i64 v.r, .int .i64 v.c, .int .i64 (hiW v.x), .int .u64 (loW v.x), .int .i64 v.k, .int .i64 v.i, .flt .f64 v.f, .str v.s, .int .i64 v.k', .int .i64 v.i', .flt .f64 v.f', .str v.s']
theorem stC_blw (l : List SV) : ∀ ds ∈ l.map stC, ∀ d ∈ ds, Blw 0 d := by
  intro ds hds d hd
  obtain ⟨v, _, rfl⟩ := List.mem_map.1 hds
  unfold stC at hd
  simp at hd
  rcases hd with rfl | rfl | rfl | rfl | rfl | rfl | rfl | rfl | rfl | rfl | rfl | rfl <;> simp
def stPO (l : List SV) : Option PO := some ⟨false, 12, 38, l.map stC⟩
def rstPO (v : SV) : Option PO := some ⟨false, 12, 42, [stC v]⟩
theorem take_stC (l : List SV) (i : Nat) (v : SV) (h : l[i]? = some v) : (l.take i).map stC ++ [stC v] = (l.take (i + 1)).map stC := by
  rw [List.take_add_one, h, List.map_append]; rfl

theorem snap_st (l : List SV) (g : Nat → Option PO) (h : g 0 = stPO l) : Snap g (.ref 0 0 l.length) (.list (l.map stC)) := by
  have hs := snap_whole (po := ⟨false, 12, 38, l.map stC⟩) (g := g) (id := 0) h (stC_blw l)
  rwa [show (PO.mk false 12 38 (l.map stC)).els.length = l.length from List.length_map ..] at hs
end Go.Proofs.Ytaddmokllmdngaa
