/- The tie, third part: the initialisers' run. -/
import Derived.Test.YtfnamalajmfjbaaGreatDoorTiedZ
set_option linter.unusedVariables false
namespace Go.Proofs.YtfnamalajmfjbaaGreatDoor.tied
open Go
def codeOf : MemPlace → Nat
  | .cell b o => 2 * (b * 65536 + o)
  | .map b => 2 * b + 1
def small : MemPlace → Bool
  | .cell _ o => Nat.blt o 65536
  | .map _ => true
theorem codeOf_inj (p q : MemPlace) (hp : small p = true) (hq : small q = true) (h : codeOf p = codeOf q) : p = q := by
  cases p <;> cases q <;> simp only [codeOf, small, Nat.blt_eq] at hp hq h
  · rename_i b o b' o'
    have : b = b' ∧ o = o' := by omega
    rw [this.1, this.2]
  · omega
  · omega
  · rename_i b b'
    have : b = b' := by omega
    rw [this]
def freshIn (x : Nat) : List Nat → Bool
  | [] => true
  | y :: l => !Nat.beq x y && freshIn x l
def apartL : List Nat → Bool
  | [] => true
  | x :: l => freshIn x l && apartL l
theorem freshIn_not (x : Nat) : ∀ l, freshIn x l = true → x ∉ l
  | [], _ => by simp
  | y :: l, h => by
    simp only [freshIn, Bool.and_eq_true, Bool.not_eq_true'] at h
    simp only [List.mem_cons, not_or]
    exact ⟨fun e => by rw [e] at h; simp at h, freshIn_not x l h.2⟩
theorem apart_nodup : ∀ l : List MemPlace, l.all small = true → apartL (l.map codeOf) = true → l.Nodup
  | [], _, _ => List.nodup_nil
  | p :: l, hs, h => by
    simp only [List.all_cons, Bool.and_eq_true] at hs
    simp only [List.map_cons, apartL, Bool.and_eq_true] at h
    refine List.nodup_cons.2 ⟨fun hm => ?_, apart_nodup l hs.2 h.2⟩
    exact freshIn_not _ _ h.1 (List.mem_map_of_mem hm)
theorem f9a (os : Os) (tape : Tape) : (DataW.laidRun Tryz.prog (varsWorld Tryz.prog 400 (varsId Tryz.prog) os tape).memory 8 ((laidN.filter fun x => x.2.handleName?.isNone).map (·.1))).map (fun x => x.2.all small && apartL (x.2.map codeOf) && laidRowsB Tryz.prog (varsWorld Tryz.prog 400 (varsId Tryz.prog) os tape).memory x.2) = some true := by kernel_rfl
theorem f9 (os : Os) (tape : Tape) : (DataW.laidRun Tryz.prog (varsWorld Tryz.prog 400 (varsId Tryz.prog) os tape).memory 8 ((laidN.filter fun x => x.2.handleName?.isNone).map (·.1))).map (fun x => decide x.2.Nodup && laidRowsB Tryz.prog (varsWorld Tryz.prog 400 (varsId Tryz.prog) os tape).memory x.2) = some true := by
  have h := f9a os tape
  rw [Option.map_eq_some_iff] at h ⊢
  obtain ⟨x, h1, h2⟩ := h
  refine ⟨x, h1, ?_⟩
  simp only [Bool.and_eq_true] at h2 ⊢
  exact ⟨decide_eq_true (apart_nodup _ h2.1.1 h2.1.2), h2.2⟩
theorem f10 (os : Os) (tape : Tape) : (laidN.filter fun x => x.2.handleName?.isSome).all (handleAtB Tryz.prog (varsWorld Tryz.prog 400 (varsId Tryz.prog) os tape).memory) = true := by kernel_rfl
end Go.Proofs.YtfnamalajmfjbaaGreatDoor.tied
