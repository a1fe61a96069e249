/- AN OPERATION's VALUE, where no closer is told: no abort at the script's end. -/
import Derived.Test.YtlpnnoojgbhfaaaGreatDoorMc
set_option linter.all false
namespace Go.AM
theorem dfl2 {L G : Prop} (l : L) (h : L → G := by
    intro l
    first
      | ((with_reducible refine ev_len ?_ ?_) <;> first | (with_reducible assumption) | exact look l)
      | ((with_reducible refine ev_load ?_ ?_) <;> first | (with_reducible assumption) | exact look l)
      | ((with_reducible refine ev_field ?_ ?_) <;> first | (with_reducible assumption) | exact look l)
      | ((with_reducible refine ev_nilCheck ?_ ?_) <;> first | (with_reducible assumption) | exact look l)
      | (simp (decide := true) only [evOp, binA, unA, eqA, primEq, convA, resultV, lenA, goI, evalAll, calleeA, Option.map_some, List.getElem?_cons_zero, List.getElem?_cons_succ, Bool.not_true, Bool.not_false, Opd.ev, putD, getT_setT, getT_nil, argsT, ofL, Nat.zero_add, Nat.reduceAdd, Nat.reduceEqDiff, reduceIte, if_true, if_false, l]; (with_reducible rfl))
      | (simp (decide := true) only [evOp, binA, unA, eqA, primEq, convA, resultV, lenA, goI, evalAll, calleeA, Option.map_some, List.getElem?_cons_zero, List.getElem?_cons_succ, Bool.not_true, Bool.not_false, Opd.ev, putD, getT_setT, getT_nil, argsT, ofL, Nat.zero_add, Nat.reduceAdd, Nat.reduceEqDiff, reduceIte, if_true, if_false, l] <;> fail)) : G := h l
end Go.AM
