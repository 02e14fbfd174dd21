/- Words for the printed texts. -/
import Derived.Test.YtjmafbiklebjcaaEngP
set_option linter.unusedVariables false
set_option linter.unusedSimpArgs false
namespace Go.Proofs.Ytjmafbiklebjcaa.Eng
def bindV (m : AM Value) (f : Value → AM Value) : AM Value := bind m f
def bindS (f : AW → AM Value) : AM Value := bind getS f
def hereV (l : List (AM Value × Value)) (K : AM Value) : AM Value := hereAll l K
def thereV (l : List AW) (m : AM Value) (v : Value) (K : AM Value) : AM Value := thereAll l m v K
def loop1 (F : (Value → AM Value) → Value → AM Value) (k : Nat) (a : Value) : AM Value := loopK (β := Value) 1 F k a
def loop2 (F : (Value → Value → AM Value) → Value → Value → AM Value) (k : Nat) (a b : Value) : AM Value := loopK (β := Value) 2 F k a b
def loop3 (F : (Value → Value → Value → AM Value) → Value → Value → Value → AM Value) (k : Nat) (a b c : Value) : AM Value := loopK (β := Value) 3 F k a b c
def loop4 (F : (Value → Value → Value → Value → AM Value) → Value → Value → Value → Value → AM Value) (k : Nat) (a b c d : Value) : AM Value := loopK (β := Value) 4 F k a b c d
def loop5 (F : (Value → Value → Value → Value → Value → AM Value) → Value → Value → Value → Value → Value → AM Value) (k : Nat) (a b c d e : Value) : AM Value := loopK (β := Value) 5 F k a b c d e
def loop6 (F : (Value → Value → Value → Value → Value → Value → AM Value) → Value → Value → Value → Value → Value → Value → AM Value) (k : Nat) (a b c d e f : Value) : AM Value := loopK (β := Value) 6 F k a b c d e f
def loop0 (F : AM Value → AM Value) (k : Nat) : AM Value := loopK (β := Value) 0 F k
end Go.Proofs.Ytjmafbiklebjcaa.Eng
