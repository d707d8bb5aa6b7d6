/- Wire: what runs on the ground. -/
import Derived.Test.YtmodeilippcbnaaR06
set_option linter.all false
namespace Go.Ab.Ex
open Go.Proofs

theorem ground_ext (l : List AObj) (H : Heap) : Ext H (groundH l H) := by
  obtain ⟨h1, h2⟩ := foldl_push_spec H.next l H
  exact ⟨by rw [show (groundH l H).next = H.next + l.length from h1]; omega, fun b hb => by rw [show (groundH l H).get b = _ from h2 b, if_neg (by omega)]⟩

def isTrue : Option (Ret × Heap) → Bool
  | some (.ret (.bool b), _) => b
  | _ => false

set_option maxRecDepth 100000 in
theorem lives_runs : isTrue (call Try.prog TT 3000 8 #[] Heap.empty) = true := by decide +kernel

theorem lives_c {H : Heap} {Q : Ret → Heap → Prop} (hQ : ∀ H', Ext H H' → Q (.ret (.bool true)) H') : C 8 #[] H Q := by
  have h := lives_runs
  unfold isTrue at h
  split at h
  · rename_i b H1 hc
    subst h
    exact ⟨_, _, hQ _ (ground_ext _ _), (CallV.run TT.ok hc).ground rfl H⟩
  · cases h

end Go.Ab.Ex
