/- docketlaw27.live says true: its run, in pieces. -/
import Derived.Test.YtbjmakigdglghaaGreatDoorDdN
import Derived.Test.YtbjmakigdglghaaGreatDoorDdO
set_option linter.unusedVariables false
set_option linter.unusedSimpArgs false
set_option linter.unusedSectionVars false
namespace Go.Proofs.YtbjmakigdglghaaGreatDoor.Dd
open Ev RowKit
set_option maxRecDepth 1000000
def k5 : Kn := ⟨6, [.string ⟨#[123, 34, 100, 111, 99, 107, 101, 116, 34, 58, 49, 44, 34, 115, 116, 97, 109, 112, 34, 58, 50, 125, 10, 123, 34, 105, 110, 34, 58, 34, 99, 34, 44, 34, 109, 111, 115, 116, 34, 58, 53, 44, 34, 115, 99, 104, 101, 109, 97, 34, 58, 110, 117, 108, 108, 125, 10, 123, 34, 105, 100, 34, 58, 34, 97, 34, 44, 34, 105, 110, 34, 58, 34, 99, 34, 44, 34, 118, 101, 114, 115, 105, 111, 110, 34, 58, 50, 44, 34, 118, 97, 108, 117, 101, 34, 58, 123, 125, 125, 10, 123, 34, 101, 110, 100, 34, 58, 51, 44, 34, 115, 117, 109, 34, 58, 34, 55, 55, 57, 97, 98, 99, 49, 101, 100, 50, 97, 54, 102, 56, 50, 52, 34, 125, 10]⟩], 440, [], .tuple #[.agg #[.int .i64 2, .slice (some ⟨713, 0, none⟩) 1 1, .slice (some ⟨938, 0, none⟩) 1 1], .int .i64 0, .int .i64 0], [(713, .cells [.string ⟨#[99]⟩, .int .i64 0, .int .i64 5, .int .i64 0, .int .i64 0, .string ⟨#[]⟩, .slice none 0 0, .slice none 0 0, .int .i64 0, .int .i64 0, .slice none 0 0] 70 (some 11)), (938, .cells [.string ⟨#[99, 47, 97]⟩, .int .i64 2, .int .i64 6, .int .i64 0, .string ⟨#[]⟩, .slice none 0 0, .slice none 0 0] 75 (some 7))], 1117⟩
theorem k5_sound : k5.sound = true := by kernel_rfl
theorem k5_run : k5.ran (evL (kns [k1, k2, k3, k4]) k5.f k5.args.toArray k5.preH) = true := by kernel_rfl
theorem k5_ok [Laid] (hov : OvOk Tryz.prog ovL) : KnOk Tryz.prog k5 := known_of_run (evL_ok hov (kns_ok (.cons (k1_ok hov) k1_sound (.cons (k2_ok hov) k2_sound (.cons (k3_ok hov) k3_sound (.cons (k4_ok hov) k4_sound .nil)))))) k5_sound k5_run

theorem runL : saysTrue (evL (kns [k0, k5]) 10 #[] ⟨0, .lf⟩) = true := by kernel_rfl
theorem live_any (W : World) (h : Tz W) : Calls Tryz.prog 10 #[] W fun e w' => e = .returned (.bool true) ∧ Below W.heap.size W w' := by
  obtain ⟨c, e, r, h1, h2⟩ := h
  letI : Laid := ⟨[⟨5, c, e, r⟩]⟩
  have hov := ovL_ok c e r h2
  refine closedK_true tabL_ok (by kernel_rfl) itL_ok (fun f => Nat.beq f 6) hov (kns_ok (.cons (k0_ok hov) k0_sound (.cons (k5_ok hov) k5_sound .nil))) 20000 60 10 runL W fun l m => ?_
  have hl : l = ⟨5, c, e, r⟩ := List.mem_singleton.1 m
  subst hl
  exact ⟨(Array.getElem?_eq_some_iff.1 h1).1, h1⟩
end Go.Proofs.YtbjmakigdglghaaGreatDoor.Dd
