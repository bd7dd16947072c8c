/- bits.OnesCount of small numbers. -/
import Derived.Test.YtmihkbiihfhpoaaDoorJSupp
namespace Go.Proofs.YtmihkbiihfhpoaaDoor
open Go.RowKit Go.Shelf

def oc1 (x : Int) : Int := IntKind.u64.wrap (bits .and .u64 (x / (2 : Int)) 6148914691236517205 + bits .and .u64 x 6148914691236517205)
def oc2 (x : Int) : Int := IntKind.u64.wrap (bits .and .u64 (x / (4 : Int)) 3689348814741910323 + bits .and .u64 x 3689348814741910323)
def oc3 (x : Int) : Int := bits .and .u64 (IntKind.u64.wrap (x / (16 : Int) + x)) 1085102592571150095
def oc4 (x : Int) : Int := IntKind.u64.wrap (x + x / (256 : Int))
def oc5 (x : Int) : Int := IntKind.u64.wrap (x + x / (65536 : Int))
def oc6 (x : Int) : Int := IntKind.u64.wrap (x + x / (4294967296 : Int))
def ocF (x : Int) : Int := bits .and .i64 (wrap64 (oc6 (oc5 (oc4 (oc3 (oc2 (oc1 x))))))) 127
theorem oc_all : (List.range 4096).all (fun x => decide (ocF (x : Nat) = ((bitsN x).length : Int))) = true := by decide +kernel
theorem oc_eq (x : Nat) (hx : x < 4096) : ocF x = ((bitsN x).length : Int) := by
  have := List.all_eq_true.1 oc_all x (List.mem_range.2 hx)
  simpa using this
theorem ones64_any (x : Nat) (w : World) (hx : x < 4096) :
    Calls Tryd.prog 68 #[.int .u64 x] w fun e w' => e = .returned (.int .i64 ((bitsN x).length : Nat)) ∧ w = w' := by
  have hF := oc_eq x hx
  unfold ocF at hF
  obtain ⟨y1, e1⟩ : ∃ y : Int, oc1 x = y := ⟨_, rfl⟩
  obtain ⟨y2, e2⟩ : ∃ y : Int, oc2 y1 = y := ⟨_, rfl⟩
  obtain ⟨y3, e3⟩ : ∃ y : Int, oc3 y2 = y := ⟨_, rfl⟩
  obtain ⟨y4, e4⟩ : ∃ y : Int, oc4 y3 = y := ⟨_, rfl⟩
  obtain ⟨y5, e5⟩ : ∃ y : Int, oc5 y4 = y := ⟨_, rfl⟩
  obtain ⟨y6, e6⟩ : ∃ y : Int, oc6 y5 = y := ⟨_, rfl⟩
  rw [e1, e2, e3, e4, e5, e6] at hF
  unfold oc1 at e1
  unfold oc2 at e2
  unfold oc3 at e3
  unfold oc4 at e4
  unfold oc5 at e5
  unfold oc6 at e6
  have HF := Lib.hid hF
  clear hF
  go_enter Tryd.func68, Tryd.ntmps68
  go_wp2
  go_ret
  exact ⟨by rw [← HF.out]; rfl, rfl⟩
theorem ones_any (x : Nat) (w : World) (hx : x < 4096) :
    Calls Tryd.prog 52 #[.int .u64 x] w fun e w' => e = .returned (.int .i64 ((bitsN x).length : Nat)) ∧ w = w' := by
  go_enter Tryd.func52, Tryd.ntmps52
  go_wp2_with (go_at_call 68; refine (ones64_any _ _ hx).mono ?_; rintro e w' ⟨rfl, rfl⟩)
  go_ret
  exact ⟨rfl, rfl⟩
end Go.Proofs.YtmihkbiihfhpoaaDoor
