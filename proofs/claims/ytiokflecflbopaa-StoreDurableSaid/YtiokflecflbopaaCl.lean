/- The library's maps.Clone at this dump. -/
import Derived.Shelf.SlMaps.Clone
import Derived.Test.YtiokflecflbopaaWo5
import Derived.Test.YtiokflecflbopaaProg
namespace Go.Proofs.Ytiokflecflbopaa
open Go CF Go.Shelf

def cloneRen : Ren := ⟨fun | 5 => 57 | 7 => 70 | n => n, fun | 4 => 4 | 20 => 20 | 23 => 100 | 25 => 9 | 3 => 22 | n => n, fun | n => n⟩
theorem cloneLays : SlLaysW.n5 Try.prog cloneRen := {
  mixed := by kernel_rfl
  f5 := ⟨"maps.Clone[map[string][]byte,string,[]byte]", by decide, Try.func57.trans (congrArg some (by kernel_rfl))⟩
  f7 := Try.func70.trans (congrArg some (by kernel_rfl))
  t4 := Try.underlying4
  a4 := Try.isAgg4
  z4 := Try.sizeOf4
  v4 := Try.zeroValue4
  t20 := Try.underlying20
  a20 := Try.isAgg20
  z20 := Try.sizeOf20
  v20 := Try.zeroValue20
  t23 := Try.underlying100
  a23 := Try.isAgg100
  z23 := Try.sizeOf100
  v23 := Try.zeroValue100 }
theorem clone_spec {w : World} {b : Nat} {es : Array MapEntry} {clock : Nat} {R : Option Nat → World → Prop} (hb : w.heap[b]? = some (.map es clock)) (h : R (some w.heap.size) (w.alloc (.map es clock))) : Cmaps_Clone_map_string_byte_string_byte (some b) w R :=
  callK1 (k := .m) (x := some w.heap.size) (AnyW.maps_Clone cloneLays b es clock w hb) fun _ e => e ▸ h
end Go.Proofs.Ytiokflecflbopaa
