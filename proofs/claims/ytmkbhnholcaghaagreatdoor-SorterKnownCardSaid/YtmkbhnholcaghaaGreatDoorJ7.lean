/-
 SorterKnown: the plain runs, worked out by the kernel.
-/
import Derived.Test.YtmkbhnholcaghaaGreatDoorJ6
namespace Go.Proofs.YtmkbhnholcaghaaGreatDoor
section
def vl (n:Nat):List (List Int):=((List.range n).map (Cs n)).map (lv · (n%17))
def oR (n:Nat):Bool:=sj (n%17) (3+n%10) (vl n) (cG (eN (vl n)))
def oM (n:Nat):Bool:=sj (n%17) 3 (vl n).reverse (cG (eN (vl n)))
def oV (n:Nat):Bool:=sj (n%17) 8 ((vl n).reverse++vl n) (cG (eN (vl n)))
set_option maxRecDepth 100000
theorem N5:oR 0=true:=by decide+kernel
theorem NU:oM 0=true:=by decide+kernel
theorem Oz:oV 0=true:=by decide+kernel
theorem NO:oR 1=true:=by decide+kernel
theorem NP:oM 1=true:=by decide+kernel
theorem Oj:oV 1=true:=by decide+kernel
theorem Oi:oR 8=true:=by decide+kernel
theorem Ov:oM 8=true:=by decide+kernel
theorem OA:oV 8=true:=by decide+kernel
theorem N9:oR 9=true:=by decide+kernel
theorem Od:oM 9=true:=by decide+kernel
theorem N3:oV 9=true:=by decide+kernel
theorem Mo:oR 10=true:=by decide+kernel
theorem MI:oM 10=true:=by decide+kernel
theorem Mp:oV 10=true:=by decide+kernel
theorem Ns:oR 18=true:=by decide+kernel
theorem Nc:oM 18=true:=by decide+kernel
theorem Nn:oV 18=true:=by decide+kernel
theorem MC:oR 19=true:=by decide+kernel
theorem NC:oM 19=true:=by decide+kernel
theorem NB:oV 19=true:=by decide+kernel
theorem MB:oR 27=true:=by decide+kernel
theorem MD:oM 27=true:=by decide+kernel
theorem MR:oV 27=true:=by decide+kernel
theorem Nz:oR 28=true:=by decide+kernel
theorem Ni:oM 28=true:=by decide+kernel
theorem MF:oV 28=true:=by decide+kernel
theorem Np:oR 30=true:=by decide+kernel
theorem MW:oM 30=true:=by decide+kernel
theorem M5:oV 30=true:=by decide+kernel
theorem Mu:oR 45=true:=by decide+kernel
theorem Ms:oM 45=true:=by decide+kernel
theorem MO:oV 45=true:=by decide+kernel
theorem MQ:oR 60=true:=by decide+kernel
theorem NA:oM 60=true:=by decide+kernel
theorem MT:oV 60=true:=by decide+kernel
end
