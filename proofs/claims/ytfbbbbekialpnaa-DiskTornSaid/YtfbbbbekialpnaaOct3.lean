/-
  octet, the third part: an edge's bytes.
-/
import Derived.Test.YtfbbbbekialpnaaOct2
import Derived.Deep.RegionHeld3
namespace Go.Proofs.Ytfbbbbekialpnaa
open Go.RowKit
set_option maxRecDepth 100000
set_option maxHeartbeats 400000

structure Ed where
  t : UInt32
  h : UInt32
  w : UInt64
  m : UInt32

def u32v (x : UInt32) : Value := .int .u32 x.toNat
def u64v (x : UInt64) : Value := .int .u64 x.toNat
def Ed.cells (e : Ed) : Array Value := #[u32v e.t, u32v e.h, u64v e.w, u32v e.m]
def Ed.v (e : Ed) : Value := .agg e.cells
def Ed.row (e : Ed) : List UInt8 := le e.t.toNat 4 ++ le e.h.toNat 4 ++ le e.w.toNat 8
def Ed.bytes (e : Ed) : List UInt8 := e.row ++ le e.m.toNat 4

end Go.Proofs.Ytfbbbbekialpnaa
