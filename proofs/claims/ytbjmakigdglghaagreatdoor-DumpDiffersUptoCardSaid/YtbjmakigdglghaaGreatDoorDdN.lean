/- docketlaw27.live: pieces of its run. -/
import Derived.Test.YtbjmakigdglghaaGreatDoorDdM
set_option linter.unusedVariables false
set_option linter.unusedSimpArgs false
set_option linter.unusedSectionVars false
namespace Go.Proofs.YtbjmakigdglghaaGreatDoor.Dd
open Ev RowKit
set_option maxRecDepth 1000000
def k0 : Kn := ⟨16, [.agg #[.int .i64 2, .slice (some ⟨1, 0, none⟩) 1 1, .slice (some ⟨2, 0, none⟩) 1 1]], 3, [(1, .cells [.string ⟨#[99]⟩, .int .i64 0, .int .i64 5, .int .i64 0, .int .i64 0, .string ⟨#[]⟩, .slice none 0 0, .slice none 0 0, .int .i64 0, .int .i64 0, .slice none 0 0] 70 none), (2, .cells [.string ⟨#[99, 47, 97]⟩, .int .i64 2, .int .i64 6, .int .i64 0, .string ⟨#[]⟩, .slice none 0 0, .slice none 0 0] 75 none)], .tuple #[.string ⟨#[123, 34, 100, 111, 99, 107, 101, 116, 34, 58, 49, 44, 34, 115, 116, 97, 109, 112, 34, 58, 50, 125, 10, 123, 34, 105, 110, 34, 58, 34, 99, 34, 44, 34, 109, 111, 115, 116, 34, 58, 53, 44, 34, 115, 99, 104, 101, 109, 97, 34, 58, 110, 117, 108, 108, 125, 10, 123, 34, 105, 100, 34, 58, 34, 97, 34, 44, 34, 105, 110, 34, 58, 34, 99, 34, 44, 34, 118, 101, 114, 115, 105, 111, 110, 34, 58, 50, 44, 34, 118, 97, 108, 117, 101, 34, 58, 123, 125, 125, 10, 123, 34, 101, 110, 100, 34, 58, 51, 44, 34, 115, 117, 109, 34, 58, 34, 55, 55, 57, 97, 98, 99, 49, 101, 100, 50, 97, 54, 102, 56, 50, 52, 34, 125, 10]⟩, .int .i64 0], [(1, .cells [.string ⟨#[99]⟩, .int .i64 0, .int .i64 5, .int .i64 0, .int .i64 0, .string ⟨#[]⟩, .slice none 0 0, .slice none 0 0, .int .i64 0, .int .i64 0, .slice none 0 0] 70 none), (2, .cells [.string ⟨#[99, 47, 97]⟩, .int .i64 2, .int .i64 6, .int .i64 0, .string ⟨#[]⟩, .slice none 0 0, .slice none 0 0] 75 none)], 440⟩
theorem k0_sound : k0.sound = true := by kernel_rfl
theorem k0_run : k0.ran (evL (kns []) k0.f k0.args.toArray k0.preH) = true := by kernel_rfl
theorem k0_ok [Laid] (hov : OvOk Tryz.prog ovL) : KnOk Tryz.prog k0 := known_of_run (evL_ok hov (kns_ok .nil)) k0_sound k0_run
end Go.Proofs.YtbjmakigdglghaaGreatDoor.Dd
namespace Go.Proofs.YtbjmakigdglghaaGreatDoor.Dd
open Ev RowKit
set_option maxRecDepth 1000000
def k1 : Kn := ⟨18, [.pointer (some ⟨443, 0, none⟩), .string ⟨#[123, 34, 100, 111, 99, 107, 101, 116, 34, 58, 49, 44, 34, 115, 116, 97, 109, 112, 34, 58, 50, 125]⟩, .string ⟨#[]⟩], 447, [(443, .cells [.int .i64 0, .int .i64 0, .slice none 0 0, .slice none 0 0, .int .i64 0] 48 none)], .int .i64 0, [(443, .cells [.int .i64 1, .int .i64 2, .slice none 0 0, .slice none 0 0, .int .i64 0] 48 none)], 560⟩
theorem k1_sound : k1.sound = true := by kernel_rfl
theorem k1_run : k1.ran (evL (kns []) k1.f k1.args.toArray k1.preH) = true := by kernel_rfl
theorem k1_ok [Laid] (hov : OvOk Tryz.prog ovL) : KnOk Tryz.prog k1 := known_of_run (evL_ok hov (kns_ok .nil)) k1_sound k1_run
def k2 : Kn := ⟨47, [.string ⟨#[123, 34, 105, 110, 34, 58, 34, 99, 34, 44, 34, 109, 111, 115, 116, 34, 58, 53, 44, 34, 115, 99, 104, 101, 109, 97, 34, 58, 110, 117, 108, 108, 125]⟩], 561, [], .tuple #[.agg #[.int .i64 6, .int .i64 0, .string ⟨#[]⟩, .slice (some ⟨611, 0, none⟩) 3 3, .slice (some ⟨614, 0, none⟩) 3 3], .int .i64 0, .int .i64 0], [(611, .cells [.string ⟨#[105, 110]⟩, .string ⟨#[109, 111, 115, 116]⟩, .string ⟨#[115, 99, 104, 101, 109, 97]⟩] 9 (some 1)), (614, .cells [.int .i64 4, .int .i64 0, .string ⟨#[99]⟩, .slice none 0 0, .slice none 0 0, .int .i64 3, .int .i64 5, .string ⟨#[]⟩, .slice none 0 0, .slice none 0 0, .int .i64 0, .int .i64 0, .string ⟨#[]⟩, .slice none 0 0, .slice none 0 0] 60 (some 5))], 615⟩
theorem k2_sound : k2.sound = true := by kernel_rfl
theorem k2_run : k2.ran (evL (kns []) k2.f k2.args.toArray k2.preH) = true := by kernel_rfl
theorem k2_ok [Laid] (hov : OvOk Tryz.prog ovL) : KnOk Tryz.prog k2 := known_of_run (evL_ok hov (kns_ok .nil)) k2_sound k2_run
end Go.Proofs.YtbjmakigdglghaaGreatDoor.Dd
