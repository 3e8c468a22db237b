/- One operation that acts, of a plain region. No statement of the seat is proved here. -/
import Derived.Test.YtnjafdjolfdklaaBase
namespace Go.Proofs.Ytnjafdjolfdklaa
theorem ls_act {P : Program} {ops : Array Oper} {Q : Exit → Act → World → Prop} {rest : List Oper} {o : Oper} {a : Act} {w : World} (hg : o.guard = none)
    (h : ∀ K : Act → World → Prop, (∀ a' w', wpList P ops Q rest a' w' → K a' w') → o.wp P a w K Q) : wpList P ops Q (o :: rest) a w := wpList_plain hg h
end Go.Proofs.Ytnjafdjolfdklaa
