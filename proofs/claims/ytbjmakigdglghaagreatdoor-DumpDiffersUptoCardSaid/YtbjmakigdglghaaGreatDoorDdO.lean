/- docketlaw27.live: pieces of its run. -/
import Derived.Test.YtbjmakigdglghaaGreatDoorDdM
set_option linter.unusedVariables false
set_option linter.unusedSimpArgs false
set_option linter.unusedSectionVars false
namespace Go.Proofs.YtbjmakigdglghaaGreatDoor.Dd
open Ev RowKit
set_option maxRecDepth 1000000
def k3 : Kn := ⟨135, [.pointer (some ⟨718, 0, none⟩), .int .i64 0], 721, [(718, .cells [.string ⟨#[123, 34, 105, 100, 34, 58, 34, 97, 34, 44, 34, 105, 110, 34, 58, 34, 99, 34, 44, 34, 118, 101, 114, 115, 105, 111, 110, 34, 58, 50, 44, 34, 118, 97, 108, 117, 101, 34, 58, 123, 125, 125]⟩, .int .i64 0, .int .i64 0, .int .i64 0] 146 none)], .agg #[.int .i64 6, .int .i64 0, .string ⟨#[]⟩, .slice (some ⟨781, 0, none⟩) 4 4, .slice (some ⟨787, 0, none⟩) 4 4], [(718, .cells [.string ⟨#[123, 34, 105, 100, 34, 58, 34, 97, 34, 44, 34, 105, 110, 34, 58, 34, 99, 34, 44, 34, 118, 101, 114, 115, 105, 111, 110, 34, 58, 50, 44, 34, 118, 97, 108, 117, 101, 34, 58, 123, 125, 125]⟩, .int .i64 42, .int .i64 0, .int .i64 0] 146 none), (781, .cells [.string ⟨#[105, 100]⟩, .string ⟨#[105, 110]⟩, .string ⟨#[118, 101, 114, 115, 105, 111, 110]⟩, .string ⟨#[118, 97, 108, 117, 101]⟩] 9 (some 1)), (787, .cells [.int .i64 4, .int .i64 0, .string ⟨#[97]⟩, .slice none 0 0, .slice none 0 0, .int .i64 4, .int .i64 0, .string ⟨#[99]⟩, .slice none 0 0, .slice none 0 0, .int .i64 3, .int .i64 2, .string ⟨#[]⟩, .slice none 0 0, .slice none 0 0, .int .i64 6, .int .i64 0, .string ⟨#[]⟩, .slice none 0 0, .slice none 0 0] 60 (some 5))], 788⟩
theorem k3_sound : k3.sound = true := by kernel_rfl
theorem k3_run : k3.ran (evL (kns []) k3.f k3.args.toArray k3.preH) = true := by kernel_rfl
theorem k3_ok [Laid] (hov : OvOk Tryz.prog ovL) : KnOk Tryz.prog k3 := known_of_run (evL_ok hov (kns_ok .nil)) k3_sound k3_run
end Go.Proofs.YtbjmakigdglghaaGreatDoor.Dd
namespace Go.Proofs.YtbjmakigdglghaaGreatDoor.Dd
open Ev RowKit
set_option maxRecDepth 1000000
def k4 : Kn := ⟨18, [.pointer (some ⟨443, 0, none⟩), .string ⟨#[123, 34, 101, 110, 100, 34, 58, 51, 44, 34, 115, 117, 109, 34, 58, 34, 55, 55, 57, 97, 98, 99, 49, 101, 100, 50, 97, 54, 102, 56, 50, 52, 34, 125]⟩, .string ⟨#[123, 34, 100, 111, 99, 107, 101, 116, 34, 58, 49, 44, 34, 115, 116, 97, 109, 112, 34, 58, 50, 125, 10, 123, 34, 105, 110, 34, 58, 34, 99, 34, 44, 34, 109, 111, 115, 116, 34, 58, 53, 44, 34, 115, 99, 104, 101, 109, 97, 34, 58, 110, 117, 108, 108, 125, 10, 123, 34, 105, 100, 34, 58, 34, 97, 34, 44, 34, 105, 110, 34, 58, 34, 99, 34, 44, 34, 118, 101, 114, 115, 105, 111, 110, 34, 58, 50, 44, 34, 118, 97, 108, 117, 101, 34, 58, 123, 125, 125, 10]⟩], 940, [(443, .cells [.int .i64 2, .int .i64 2, .slice (some ⟨713, 0, none⟩) 1 1, .slice (some ⟨938, 0, none⟩) 1 1, .int .i64 3] 48 none), (713, .cells [.string ⟨#[99]⟩, .int .i64 0, .int .i64 5, .int .i64 0, .int .i64 0, .string ⟨#[]⟩, .slice none 0 0, .slice none 0 0, .int .i64 0, .int .i64 0, .slice none 0 0] 70 (some 11)), (938, .cells [.string ⟨#[99, 47, 97]⟩, .int .i64 2, .int .i64 6, .int .i64 0, .string ⟨#[]⟩, .slice none 0 0, .slice none 0 0] 75 (some 7))], .int .i64 0, [(443, .cells [.int .i64 3, .int .i64 2, .slice (some ⟨713, 0, none⟩) 1 1, .slice (some ⟨938, 0, none⟩) 1 1, .int .i64 3] 48 none), (713, .cells [.string ⟨#[99]⟩, .int .i64 0, .int .i64 5, .int .i64 0, .int .i64 0, .string ⟨#[]⟩, .slice none 0 0, .slice none 0 0, .int .i64 0, .int .i64 0, .slice none 0 0] 70 (some 11)), (938, .cells [.string ⟨#[99, 47, 97]⟩, .int .i64 2, .int .i64 6, .int .i64 0, .string ⟨#[]⟩, .slice none 0 0, .slice none 0 0] 75 (some 7))], 1117⟩
theorem k4_sound : k4.sound = true := by kernel_rfl
theorem k4_run : k4.ran (evL (kns []) k4.f k4.args.toArray k4.preH) = true := by kernel_rfl
theorem k4_ok [Laid] (hov : OvOk Tryz.prog ovL) : KnOk Tryz.prog k4 := known_of_run (evL_ok hov (kns_ok .nil)) k4_sound k4_run
end Go.Proofs.YtbjmakigdglghaaGreatDoor.Dd
