/- SHA-256's pass over 64 bytes, step by step as the program goes. 'F' takes a number and what is done with it: at once, or as it is. -/
import Derived.Test.YthdaccndnfgeeaaGreatDoorEv
namespace Go.Proofs.YthdaccndnfgeeaaGreatDoor.CM
open Go
def M32 (n : Nat) : Nat := Nat.mod n 4294967296
def rotX (x r : Nat) : Nat := M32 (Nat.lor (Nat.shiftRight x r) (M32 (Nat.mul x (Nat.pow 2 (Nat.sub 32 r)))))
def xor3 (a b c : Nat) : Nat := M32 (Nat.xor (M32 (Nat.xor a b)) c)
def halfX (x a b c : Nat) : Nat := M32 (Nat.xor (M32 (Nat.xor (rotX x a) (rotX x b))) (Nat.shiftRight x c))
noncomputable def nthX (l : List Nat) (i : Nat) : Nat := List.rec (motive := fun _ => Nat → Nat) (fun _ => 0) (fun a _ ih i => Nat.rec a (fun i _ => ih i) i) l i
/-- One byte more. -/
def by8 (m c : Nat) : Nat := M32 (Nat.add (M32 (Nat.mul m 256)) (M32 c))
abbrev FK := Nat → (Nat → List Nat) → List Nat
noncomputable def wordsG (F : FK) (fuel : Nat) : List Nat → List Nat → List Nat :=
  Nat.rec (fun _ acc => acc) (fun _ ih b acc => match b with
    | a :: b :: c :: d :: r => F (by8 (by8 (by8 (by8 0 a) b) c) d) fun w => ih r (w :: acc)
    | _ => acc) fuel
noncomputable def schedG (F : FK) (n : Nat) : List Nat → List Nat :=
  Nat.rec (fun l => l) (fun _ ih l => F (M32 (Nat.add (M32 (Nat.add (M32 (Nat.add (nthX l 15) (halfX (nthX l 14) 7 18 3))) (nthX l 6))) (halfX (nthX l 1) 17 19 10))) fun w => ih (w :: l)) n
noncomputable def revX (l : List Nat) : List Nat := List.rec (motive := fun _ => List Nat → List Nat) (fun acc => acc) (fun a _ ih acc => ih (a :: acc)) l []
def kX : List Nat := [0x428a2f98, 0x71374491, 0xb5c0fbcf, 0xe9b5dba5, 0x3956c25b, 0x59f111f1, 0x923f82a4, 0xab1c5ed5,
  0xd807aa98, 0x12835b01, 0x243185be, 0x550c7dc3, 0x72be5d74, 0x80deb1fe, 0x9bdc06a7, 0xc19bf174,
  0xe49b69c1, 0xefbe4786, 0x0fc19dc6, 0x240ca1cc, 0x2de92c6f, 0x4a7484aa, 0x5cb0a9dc, 0x76f988da,
  0x983e5152, 0xa831c66d, 0xb00327c8, 0xbf597fc7, 0xc6e00bf3, 0xd5a79147, 0x06ca6351, 0x14292967,
  0x27b70a85, 0x2e1b2138, 0x4d2c6dfc, 0x53380d13, 0x650a7354, 0x766a0abb, 0x81c2c92e, 0x92722c85,
  0xa2bfe8a1, 0xa81a664b, 0xc24b8b70, 0xc76c51a3, 0xd192e819, 0xd6990624, 0xf40e3585, 0x106aa070,
  0x19a4c116, 0x1e376c08, 0x2748774c, 0x34b0bcb5, 0x391c0cb3, 0x4ed8aa4a, 0x5b9cca4f, 0x682e6ff3,
  0x748f82ee, 0x78a5636f, 0x84c87814, 0x8cc70208, 0x90befffa, 0xa4506ceb, 0xbef9a3f7, 0xc67178f2]
def choiceX (e f g : Nat) : Nat := M32 (Nat.xor g (M32 (Nat.land e (M32 (Nat.xor f g)))))
def mostX (a b c : Nat) : Nat := M32 (Nat.lor (M32 (Nat.lor (M32 (Nat.land a b)) (M32 (Nat.land a c)))) (M32 (Nat.land b c)))
def pX (h e f g k m : Nat) : Nat := M32 (Nat.add (M32 (Nat.add (M32 (Nat.add (M32 (Nat.add h (xor3 (rotX e 6) (rotX e 11) (rotX e 25)))) (choiceX e f g))) k)) m)
def newX (p a b c : Nat) : Nat := M32 (Nat.add (M32 (Nat.add p (xor3 (rotX a 2) (rotX a 13) (rotX a 22)))) (mostX a b c))
noncomputable def roundsG (F : FK) (ks : List Nat) : List Nat → Nat → Nat → Nat → Nat → Nat → Nat → Nat → Nat → List Nat :=
  List.rec (fun _ a b c d e f g h => [a, b, c, d, e, f, g, h]) (fun k _ ih ms a b c d e f g h => match ms with
    | [] => []
    | m :: ms => F (pX h e f g k m) fun p => F (newX p a b c) fun a' => F (M32 (Nat.add d p)) fun e' => ih ms a' a b c e' e f g) ks
noncomputable def addsG (F : FK) (a : List Nat) : List Nat → List Nat := List.rec (fun _ => []) (fun x _ ih b => match b with | [] => [] | y :: s => F (M32 (Nat.add x y)) fun z => z :: ih s) a
noncomputable def passG (F : FK) (w b : List Nat) : List Nat :=
  addsG F (roundsG F kX (revX (schedG F 48 (wordsG F 16 b []))) (nthX w 0) (nthX w 1) (nthX w 2) (nthX w 3) (nthX w 4) (nthX w 5) (nthX w 6) (nthX w 7)) w
/-- As it is. -/
def asIs : FK := fun n k => k n
theorem frc_asIs : (fun n k => frc n k : FK) = asIs := by funext n k; cases n <;> rfl
end Go.Proofs.YthdaccndnfgeeaaGreatDoor.CM
