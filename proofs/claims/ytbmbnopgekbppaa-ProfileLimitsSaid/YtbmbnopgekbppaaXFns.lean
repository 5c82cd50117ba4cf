import Derived.Test.YtbmbnopgekbppaaXFnsA
set_option linter.unusedVariables false
namespace Go.Proofs.Ytbmbnopgekbppaa.Ev
open Go Go.RowKit
/- chicane/profile.Speeds#round18 -/
abbrev A13330_y0 : Type := (Int × Int) × List Int × (List (Int × Int)) × List Int × (Int × Int × Int × Int) × Bool
abbrev R13330_y0 : Type := Bool × (List (Int × Int)) × (Int × Int × Int × Int) × Bool × List Int × List Int
def v13330_y0 : Pk G ((Int × Int) × List Int × (List (Int × Int)) × List Int × (Int × Int × Int × Int) × Bool) := (pk (Sh.snd (Sh.cons (Sh.yld 0) (Sh.cons (Sh.int .i64) (Sh.fst (Sh.cons (Sh.int .i64) Sh.nil))))) (Sh.snd (Sh.hlp 0 13330 .ready (Sh.snd (Sh.cons Sh.any (Sh.snd (Sh.cons Sh.any (Sh.snd (Sh.cons Sh.any (Sh.snd (Sh.cons (Sh.ptr 1 0) (Sh.snd (Sh.cons Sh.any (Sh.snd (Sh.cons (Sh.ptr 3 0) (Sh.snd (Sh.cons Sh.any (Sh.snd (Sh.cons (Sh.ptr 4 0) (Sh.snd (Sh.cons (Sh.ptr 6 0) (Sh.snd (Sh.cons Sh.any (Sh.snd (Sh.cons Sh.any (Sh.snd (Sh.cons Sh.any (Sh.snd (Sh.cons Sh.any (Sh.snd (Sh.cons Sh.any (Sh.snd (Sh.cons Sh.any (Sh.snd (Sh.cons Sh.any (Sh.snd (Sh.cons Sh.any (Sh.snd (Sh.cons Sh.any (Sh.snd (Sh.cons Sh.any (Sh.snd (Sh.cons Sh.any (Sh.snd (Sh.cons Sh.any (Sh.snd (Sh.cons Sh.any (Sh.snd (Sh.cons Sh.any (Sh.snd (Sh.cons Sh.any (Sh.snd (Sh.cons Sh.any (Sh.snd (Sh.cons Sh.any (Sh.snd (Sh.cons Sh.any (Sh.snd (Sh.cons Sh.any (Sh.snd (Sh.cons Sh.any (Sh.snd (Sh.cons Sh.any (Sh.snd (Sh.cons Sh.any (Sh.snd (Sh.cons Sh.any (Sh.snd (Sh.cons Sh.any (Sh.snd (Sh.cons Sh.any (Sh.snd (Sh.cons Sh.any (Sh.snd (Sh.cons Sh.any (Sh.snd (Sh.cons Sh.any (Sh.snd (Sh.cons Sh.any (Sh.snd (Sh.cons Sh.any (Sh.snd (Sh.cons Sh.any (Sh.snd (Sh.cons Sh.any (Sh.snd (Sh.cons Sh.any (Sh.snd (Sh.cons Sh.any (Sh.snd (Sh.cons Sh.any (Sh.snd (Sh.cons Sh.any (Sh.snd (Sh.cons Sh.any (Sh.snd (Sh.cons Sh.any (Sh.snd (Sh.cons Sh.any (Sh.snd (Sh.cons Sh.any (Sh.snd (Sh.cons Sh.any (Sh.snd (Sh.cons Sh.any (Sh.snd (Sh.cons Sh.any (Sh.snd (Sh.cons Sh.any (Sh.snd (Sh.cons Sh.any (Sh.snd (Sh.cons Sh.any (Sh.snd (Sh.cons Sh.any (Sh.snd (Sh.cons Sh.any (Sh.snd (Sh.cons Sh.any (Sh.snd (Sh.cons Sh.any (Sh.snd (Sh.cons Sh.any (Sh.snd (Sh.cons Sh.any (Sh.snd (Sh.cons Sh.any (Sh.snd (Sh.cons Sh.any (Sh.snd (Sh.cons Sh.any (Sh.snd (Sh.cons Sh.any (Sh.snd (Sh.cons Sh.any (Sh.snd (Sh.cons Sh.any (Sh.snd (Sh.cons Sh.any (Sh.snd (Sh.cons Sh.any (Sh.snd (Sh.cons Sh.any (Sh.snd (Sh.cons Sh.any (Sh.snd (Sh.cons Sh.any (Sh.snd (Sh.cons Sh.any (Sh.snd (Sh.cons Sh.any (Sh.snd (Sh.cons Sh.any (Sh.snd (Sh.cons Sh.any (Sh.snd (Sh.cons Sh.any (Sh.snd (Sh.cons Sh.any (Sh.snd (Sh.cons Sh.any (Sh.snd (Sh.cons Sh.any (Sh.snd (Sh.cons Sh.any (Sh.snd (Sh.cons Sh.any (Sh.snd (Sh.cons Sh.any (Sh.snd (Sh.cons Sh.any (Sh.snd (Sh.cons Sh.any (Sh.snd (Sh.cons Sh.any (Sh.snd (Sh.cons Sh.any (Sh.snd (Sh.cons Sh.any (Sh.snd (Sh.cons Sh.any (Sh.snd (Sh.cons Sh.any (Sh.snd (Sh.cons Sh.any (Sh.snd (Sh.cons Sh.any (Sh.snd (Sh.cons Sh.any (Sh.snd (Sh.cons Sh.any (Sh.snd (Sh.cons Sh.any (Sh.snd (Sh.cons Sh.any (Sh.snd (Sh.cons Sh.any (Sh.snd (Sh.cons Sh.any (Sh.snd (Sh.cons Sh.any (Sh.snd (Sh.cons Sh.any (Sh.snd (Sh.cons Sh.any (Sh.snd (Sh.cons Sh.any (Sh.snd (Sh.cons Sh.any (Sh.snd (Sh.cons Sh.any (Sh.snd (Sh.cons Sh.any (Sh.snd (Sh.cons Sh.any (Sh.snd (Sh.cons Sh.any (Sh.snd (Sh.cons Sh.any (Sh.snd (Sh.cons Sh.any (Sh.snd (Sh.cons Sh.any (Sh.snd (Sh.cons Sh.any (Sh.snd (Sh.cons Sh.any (Sh.snd (Sh.cons Sh.any (Sh.snd (Sh.cons Sh.any (Sh.snd (Sh.cons Sh.any (Sh.snd (Sh.cons Sh.any (Sh.snd (Sh.cons Sh.any (Sh.snd (Sh.cons Sh.any (Sh.snd (Sh.cons Sh.any Sh.nil)))))))))))))))))))))))))))))))))))))))))))))))))))))))))))))))))))))))))))))))))))))))))))))))))))))))))))))))))))))))))))))))))))))))))))))))))))))))))))))))))))))))))))))))))))))))))))))))))))))))))))))))))))))))))))))))))))))))))))))) (Sh.snd (Sh.hfix 6 41 (Sh.snd (Sh.cons (Sh.osl 7) Sh.nil)) (Sh.hrow 7 22 (Sh.hfix 4 64 (Sh.fst (Sh.cons (Sh.ros 24) (Sh.snd (Sh.cons (Sh.osl 5) Sh.nil)))) (Sh.hrow 5 22 (Sh.hfix 3 40 (Sh.cons (Sh.int .i64) (Sh.cons (Sh.int .i64) (Sh.cons (Sh.int .i64) (Sh.fst (Sh.cons (Sh.int .i64) Sh.nil))))) (Sh.snd (Sh.hfix 1 27 (Sh.snd (Sh.cons (Sh.ptr 2 0) Sh.nil)) (Sh.fst (Sh.hfix 2 29 (Sh.fst (Sh.cons Sh.bool Sh.nil)) Sh.hnil)))))))))))))
def w13330_y0 : Wk G (Bool × (List (Int × Int)) × (Int × Int × Int × Int) × Bool × List Int × List Int) := (Wk.one [.keep] (pk (Sh.fst (Sh.cons Sh.bool Sh.nil)) (Sh.snd (Sh.hlp 0 13330 .ready (Sh.snd (Sh.cons Sh.any (Sh.snd (Sh.cons Sh.any (Sh.snd (Sh.cons Sh.any (Sh.snd (Sh.cons (Sh.ptr 1 0) (Sh.snd (Sh.cons Sh.any (Sh.snd (Sh.cons (Sh.ptr 3 0) (Sh.snd (Sh.cons Sh.any (Sh.snd (Sh.cons (Sh.ptr 4 0) (Sh.snd (Sh.cons (Sh.ptr 6 0) (Sh.snd (Sh.cons Sh.any (Sh.snd (Sh.cons Sh.any (Sh.snd (Sh.cons Sh.any (Sh.snd (Sh.cons Sh.any (Sh.snd (Sh.cons Sh.any (Sh.snd (Sh.cons Sh.any (Sh.snd (Sh.cons Sh.any (Sh.snd (Sh.cons Sh.any (Sh.snd (Sh.cons Sh.any (Sh.snd (Sh.cons Sh.any (Sh.snd (Sh.cons Sh.any (Sh.snd (Sh.cons Sh.any (Sh.snd (Sh.cons Sh.any (Sh.snd (Sh.cons Sh.any (Sh.snd (Sh.cons Sh.any (Sh.snd (Sh.cons Sh.any (Sh.snd (Sh.cons Sh.any (Sh.snd (Sh.cons Sh.any (Sh.snd (Sh.cons Sh.any (Sh.snd (Sh.cons Sh.any (Sh.snd (Sh.cons Sh.any (Sh.snd (Sh.cons Sh.any (Sh.snd (Sh.cons Sh.any (Sh.snd (Sh.cons Sh.any (Sh.snd (Sh.cons Sh.any (Sh.snd (Sh.cons Sh.any (Sh.snd (Sh.cons Sh.any (Sh.snd (Sh.cons Sh.any (Sh.snd (Sh.cons Sh.any (Sh.snd (Sh.cons Sh.any (Sh.snd (Sh.cons Sh.any (Sh.snd (Sh.cons Sh.any (Sh.snd (Sh.cons Sh.any (Sh.snd (Sh.cons Sh.any (Sh.snd (Sh.cons Sh.any (Sh.snd (Sh.cons Sh.any (Sh.snd (Sh.cons Sh.any (Sh.snd (Sh.cons Sh.any (Sh.snd (Sh.cons Sh.any (Sh.snd (Sh.cons Sh.any (Sh.snd (Sh.cons Sh.any (Sh.snd (Sh.cons Sh.any (Sh.snd (Sh.cons Sh.any (Sh.snd (Sh.cons Sh.any (Sh.snd (Sh.cons Sh.any (Sh.snd (Sh.cons Sh.any (Sh.snd (Sh.cons Sh.any (Sh.snd (Sh.cons Sh.any (Sh.snd (Sh.cons Sh.any (Sh.snd (Sh.cons Sh.any (Sh.snd (Sh.cons Sh.any (Sh.snd (Sh.cons Sh.any (Sh.snd (Sh.cons Sh.any (Sh.snd (Sh.cons Sh.any (Sh.snd (Sh.cons Sh.any (Sh.snd (Sh.cons Sh.any (Sh.snd (Sh.cons Sh.any (Sh.snd (Sh.cons Sh.any (Sh.snd (Sh.cons Sh.any (Sh.snd (Sh.cons Sh.any (Sh.snd (Sh.cons Sh.any (Sh.snd (Sh.cons Sh.any (Sh.snd (Sh.cons Sh.any (Sh.snd (Sh.cons Sh.any (Sh.snd (Sh.cons Sh.any (Sh.snd (Sh.cons Sh.any (Sh.snd (Sh.cons Sh.any (Sh.snd (Sh.cons Sh.any (Sh.snd (Sh.cons Sh.any (Sh.snd (Sh.cons Sh.any (Sh.snd (Sh.cons Sh.any (Sh.snd (Sh.cons Sh.any (Sh.snd (Sh.cons Sh.any (Sh.snd (Sh.cons Sh.any (Sh.snd (Sh.cons Sh.any (Sh.snd (Sh.cons Sh.any (Sh.snd (Sh.cons Sh.any (Sh.snd (Sh.cons Sh.any (Sh.snd (Sh.cons Sh.any (Sh.snd (Sh.cons Sh.any (Sh.snd (Sh.cons Sh.any (Sh.snd (Sh.cons Sh.any (Sh.snd (Sh.cons Sh.any (Sh.snd (Sh.cons Sh.any (Sh.snd (Sh.cons Sh.any (Sh.snd (Sh.cons Sh.any (Sh.snd (Sh.cons Sh.any (Sh.snd (Sh.cons Sh.any (Sh.snd (Sh.cons Sh.any (Sh.snd (Sh.cons Sh.any (Sh.snd (Sh.cons Sh.any (Sh.snd (Sh.cons Sh.any (Sh.snd (Sh.cons Sh.any (Sh.snd (Sh.cons Sh.any (Sh.snd (Sh.cons Sh.any (Sh.snd (Sh.cons Sh.any (Sh.snd (Sh.cons Sh.any (Sh.snd (Sh.cons Sh.any (Sh.snd (Sh.cons Sh.any (Sh.snd (Sh.cons Sh.any (Sh.snd (Sh.cons Sh.any (Sh.snd (Sh.cons Sh.any (Sh.snd (Sh.cons Sh.any (Sh.snd (Sh.cons Sh.any (Sh.snd (Sh.cons Sh.any (Sh.snd (Sh.cons Sh.any (Sh.snd (Sh.cons Sh.any (Sh.snd (Sh.cons Sh.any (Sh.snd (Sh.cons Sh.any (Sh.snd (Sh.cons Sh.any Sh.nil)))))))))))))))))))))))))))))))))))))))))))))))))))))))))))))))))))))))))))))))))))))))))))))))))))))))))))))))))))))))))))))))))))))))))))))))))))))))))))))))))))))))))))))))))))))))))))))))))))))))))))))))))))))))))))))))))))))))))))))) (Sh.snd (Sh.hfix 6 41 (Sh.snd (Sh.cons (Sh.osl 7) Sh.nil)) (Sh.hfix 4 64 (Sh.fst (Sh.cons (Sh.ros 24) (Sh.snd (Sh.cons (Sh.osl 5) Sh.nil)))) (Sh.hfix 3 40 (Sh.cons (Sh.int .i64) (Sh.cons (Sh.int .i64) (Sh.cons (Sh.int .i64) (Sh.fst (Sh.cons (Sh.int .i64) Sh.nil))))) (Sh.snd (Sh.hfix 1 27 (Sh.snd (Sh.cons (Sh.ptr 2 0) Sh.nil)) (Sh.hfix 2 29 (Sh.fst (Sh.cons Sh.bool Sh.nil)) (Sh.hrow 5 22 (Sh.fst (Sh.hrow 7 22 Sh.hnil))))))))))))))
def F13330_y0 (v : (Int × Int) × List Int × (List (Int × Int)) × List Int × (Int × Int × Int × Int) × Bool) : Option (Bool × (List (Int × Int)) × (Int × Int × Int × Int) × Bool × List Int × List Int) :=
  (idx v.1.1 (v.2.1).length).bind fun (x2139 : Nat) =>
  ((v.2.1)[x2139]?).bind fun (x2140 : Int) =>
  (idx v.1.2 (v.2.1).length).bind fun (x2141 : Nat) =>
  ((v.2.1)[x2141]?).bind fun (x2142 : Int) =>
  (idx v.1.1 (v.2.2.2.1).length).bind fun (x2143 : Nat) =>
  ((v.2.2.2.1)[x2143]?).bind fun (x2144 : Int) =>
  (F42_0 ((x2142, (v.2.2.2.2.1.2.2.1, x2144)), v.2.2.2.2.2)).bind fun r2145 =>
  let x2146 : Int := (if r2145.1 < x2140 then r2145.1 else x2140)
  (idx v.1.1 (v.2.1).length).bind fun (x2147 : Nat) =>
  ((v.2.1)[x2147]?).bind fun _ =>
  let x2149 : List Int := (v.2.1).set x2147 (x2146)
  some (true, (v.2.2.1, (v.2.2.2.2.1, (r2145.2, (v.2.2.2.1, x2149)))))

noncomputable def k13330_y0 : List (Known Try.prog E) := [Known.of envOk [5, 1, 1, 1] [(.ptr 0 0 29 [.keep]), .keep, .keep, .keep] v42_0 F42_0 w42_0 ok42_0]
def ft13330_y0_0 : List Pat := [(.own 7 22), (.own 5 22), (.ptr 2 0 29 [.keep]), (.ptr 1 0 27 [(.ptr 2 0 29 [])]), (.ptr 3 0 40 [.keep, .keep, .keep, .keep]), (.ptr 4 0 64 [(.ros 24), (.own 5 22)]), (.ptr 6 0 41 [(.own 7 22)]), (.yld 0 13330 [.any, .any, .any, (.ptr 1 0 27 []), .any, (.ptr 3 0 40 []), .any, (.ptr 4 0 64 []), (.ptr 6 0 41 []), .any, .any, .any, .any, .any, .any, .any, .any, .any, .any, .any, .any, .any, .any, .any, .any, .any, .any, .any, .any, .any, .any, .any, .any, .any, .any, .any, .any, .any, .any, .any, .any, .any, .any, .any, .any, .any, .any, .any, .any, .any, .any, .any, .any, .any, .any, .any, .any, .any, .any, .any, .any, .any, .any, .any, .any, .any, .any, .any, .any, .any, .any, .any, .any, .any, .any, .any, .any, .any, .any, .any, .any, .any, .any, .any, .any, .any, .any, .any, .any, .any, .any, .any, .any, .any, .any, .any, .any, .any, .any, .any, .any, .any, .any, .any, .any, .any, .any, .any, .any, .any, .any, .any, .any, .any, .any, .any, .any, .any, .any])]
noncomputable def sy13330_y0 : Array Tmp × Code × Code := match todoAt (Try.f13.body.getD .skip) 18 with | .code (.rangeFunc _ ps aa bb) :: _ => (ps, aa, bb) | _ => (#[], .skip, .skip)
noncomputable def L13330_y0 (n id : Nat) (st : St G) : Option (Bool × (List (Int × Int)) × (Int × Int × Int × Int) × Bool × List Int × List Int) := none
set_option maxRecDepth 100000 in
theorem e13330_y0 (n : Nat) (v : (Int × Int) × List Int × (List (Int × Int)) × List Int × (Int × Int × Int × Int) × Bool) : ev Try.prog E (oracle k13330_y0) 119 (fun x => mem x []) (L13330_y0 n) (finB Try.prog [ft13330_y0_0] w13330_y0.alts) 4000 [.code sy13330_y0.2.1, .beginRound, .code sy13330_y0.2.2] (rndSt sy13330_y0.1.toList (v13330_y0.enc v)) = F13330_y0 v := by kernel_rfl
theorem ok13330_y0 : CalOk Try.prog E (.yl 13330) v13330_y0.enc F13330_y0 w13330_y0.enc :=
  round_known (key := 13330) (ps := sy13330_y0.1) (aa := sy13330_y0.2.1) (bb := sy13330_y0.2.2) (site_of (fn := Try.f13) (c := (Try.f13.body.getD .skip)) Try.func13 rfl (by kernel_rfl) (by kernel_rfl)) envOk (oracle_ok k13330_y0) mixed 119 v13330_y0 F13330_y0 w13330_y0 ft13330_y0_0 [ft13330_y0_0] (by kernel_rfl) [] 4000 L13330_y0 (by kernel_rfl)
    (fun _ h => nomatch h) (fun v _ h => ⟨0, (e13330_y0 _ v).trans h⟩) (fun _ => by kernel_rfl) (by kernel_rfl) (fun _ => by kernel_rfl) (fun _ _ => by kernel_rfl)
/- (chicane/profile.loop).back$1 -/
abbrev A68_0 : Type := (List (Int × Int)) × List Int × (List (Int × Int)) × List Int × (Int × Int × Int × Int) × Bool
abbrev R68_0 : Type := (List (Int × Int)) × (List (Int × Int)) × (Int × Int × Int × Int) × Bool × List Int × List Int
def v68_0 : Pk G ((List (Int × Int)) × List Int × (List (Int × Int)) × List Int × (Int × Int × Int × Int) × Bool) := (Pk.snd (pk (Sh.snd (Sh.cons (Sh.yld 0) (Sh.snd (Sh.cons (Sh.ptr 8 0) Sh.nil)))) (Sh.hfix 8 64 (Sh.fst (Sh.cons (Sh.ros 24) (Sh.snd (Sh.cons (Sh.osl 5) Sh.nil)))) (Sh.snd (Sh.hlp 0 13330 .ready (Sh.snd (Sh.cons Sh.any (Sh.snd (Sh.cons Sh.any (Sh.snd (Sh.cons Sh.any (Sh.snd (Sh.cons (Sh.ptr 1 0) (Sh.snd (Sh.cons Sh.any (Sh.snd (Sh.cons (Sh.ptr 3 0) (Sh.snd (Sh.cons Sh.any (Sh.snd (Sh.cons (Sh.ptr 4 0) (Sh.snd (Sh.cons (Sh.ptr 6 0) (Sh.snd (Sh.cons Sh.any (Sh.snd (Sh.cons Sh.any (Sh.snd (Sh.cons Sh.any (Sh.snd (Sh.cons Sh.any (Sh.snd (Sh.cons Sh.any (Sh.snd (Sh.cons Sh.any (Sh.snd (Sh.cons Sh.any (Sh.snd (Sh.cons Sh.any (Sh.snd (Sh.cons Sh.any (Sh.snd (Sh.cons Sh.any (Sh.snd (Sh.cons Sh.any (Sh.snd (Sh.cons Sh.any (Sh.snd (Sh.cons Sh.any (Sh.snd (Sh.cons Sh.any (Sh.snd (Sh.cons Sh.any (Sh.snd (Sh.cons Sh.any (Sh.snd (Sh.cons Sh.any (Sh.snd (Sh.cons Sh.any (Sh.snd (Sh.cons Sh.any (Sh.snd (Sh.cons Sh.any (Sh.snd (Sh.cons Sh.any (Sh.snd (Sh.cons Sh.any (Sh.snd (Sh.cons Sh.any (Sh.snd (Sh.cons Sh.any (Sh.snd (Sh.cons Sh.any (Sh.snd (Sh.cons Sh.any (Sh.snd (Sh.cons Sh.any (Sh.snd (Sh.cons Sh.any (Sh.snd (Sh.cons Sh.any (Sh.snd (Sh.cons Sh.any (Sh.snd (Sh.cons Sh.any (Sh.snd (Sh.cons Sh.any (Sh.snd (Sh.cons Sh.any (Sh.snd (Sh.cons Sh.any (Sh.snd (Sh.cons Sh.any (Sh.snd (Sh.cons Sh.any (Sh.snd (Sh.cons Sh.any (Sh.snd (Sh.cons Sh.any (Sh.snd (Sh.cons Sh.any (Sh.snd (Sh.cons Sh.any (Sh.snd (Sh.cons Sh.any (Sh.snd (Sh.cons Sh.any (Sh.snd (Sh.cons Sh.any (Sh.snd (Sh.cons Sh.any (Sh.snd (Sh.cons Sh.any (Sh.snd (Sh.cons Sh.any (Sh.snd (Sh.cons Sh.any (Sh.snd (Sh.cons Sh.any (Sh.snd (Sh.cons Sh.any (Sh.snd (Sh.cons Sh.any (Sh.snd (Sh.cons Sh.any (Sh.snd (Sh.cons Sh.any (Sh.snd (Sh.cons Sh.any (Sh.snd (Sh.cons Sh.any (Sh.snd (Sh.cons Sh.any (Sh.snd (Sh.cons Sh.any (Sh.snd (Sh.cons Sh.any (Sh.snd (Sh.cons Sh.any (Sh.snd (Sh.cons Sh.any (Sh.snd (Sh.cons Sh.any (Sh.snd (Sh.cons Sh.any (Sh.snd (Sh.cons Sh.any (Sh.snd (Sh.cons Sh.any (Sh.snd (Sh.cons Sh.any (Sh.snd (Sh.cons Sh.any (Sh.snd (Sh.cons Sh.any (Sh.snd (Sh.cons Sh.any (Sh.snd (Sh.cons Sh.any (Sh.snd (Sh.cons Sh.any (Sh.snd (Sh.cons Sh.any (Sh.snd (Sh.cons Sh.any (Sh.snd (Sh.cons Sh.any (Sh.snd (Sh.cons Sh.any (Sh.snd (Sh.cons Sh.any (Sh.snd (Sh.cons Sh.any (Sh.snd (Sh.cons Sh.any (Sh.snd (Sh.cons Sh.any (Sh.snd (Sh.cons Sh.any (Sh.snd (Sh.cons Sh.any (Sh.snd (Sh.cons Sh.any (Sh.snd (Sh.cons Sh.any (Sh.snd (Sh.cons Sh.any (Sh.snd (Sh.cons Sh.any (Sh.snd (Sh.cons Sh.any (Sh.snd (Sh.cons Sh.any (Sh.snd (Sh.cons Sh.any (Sh.snd (Sh.cons Sh.any (Sh.snd (Sh.cons Sh.any (Sh.snd (Sh.cons Sh.any (Sh.snd (Sh.cons Sh.any (Sh.snd (Sh.cons Sh.any (Sh.snd (Sh.cons Sh.any (Sh.snd (Sh.cons Sh.any (Sh.snd (Sh.cons Sh.any (Sh.snd (Sh.cons Sh.any (Sh.snd (Sh.cons Sh.any (Sh.snd (Sh.cons Sh.any (Sh.snd (Sh.cons Sh.any (Sh.snd (Sh.cons Sh.any (Sh.snd (Sh.cons Sh.any (Sh.snd (Sh.cons Sh.any (Sh.snd (Sh.cons Sh.any (Sh.snd (Sh.cons Sh.any (Sh.snd (Sh.cons Sh.any (Sh.snd (Sh.cons Sh.any (Sh.snd (Sh.cons Sh.any (Sh.snd (Sh.cons Sh.any (Sh.snd (Sh.cons Sh.any (Sh.snd (Sh.cons Sh.any (Sh.snd (Sh.cons Sh.any Sh.nil)))))))))))))))))))))))))))))))))))))))))))))))))))))))))))))))))))))))))))))))))))))))))))))))))))))))))))))))))))))))))))))))))))))))))))))))))))))))))))))))))))))))))))))))))))))))))))))))))))))))))))))))))))))))))))))))))))))))))))))) (Sh.snd (Sh.hfix 6 41 (Sh.snd (Sh.cons (Sh.osl 7) Sh.nil)) (Sh.hrow 7 22 (Sh.hfix 4 64 (Sh.fst (Sh.cons (Sh.ros 24) (Sh.snd (Sh.cons (Sh.osl 5) Sh.nil)))) (Sh.hrow 5 22 (Sh.hfix 3 40 (Sh.cons (Sh.int .i64) (Sh.cons (Sh.int .i64) (Sh.cons (Sh.int .i64) (Sh.fst (Sh.cons (Sh.int .i64) Sh.nil))))) (Sh.snd (Sh.hfix 1 27 (Sh.snd (Sh.cons (Sh.ptr 2 0) Sh.nil)) (Sh.fst (Sh.hfix 2 29 (Sh.fst (Sh.cons Sh.bool Sh.nil)) Sh.hnil)))))))))))))))
def w68_0 : Wk G ((List (Int × Int)) × (List (Int × Int)) × (Int × Int × Int × Int) × Bool × List Int × List Int) := (Wk.one [] (Pk.snd (pk Sh.nil (Sh.hfix 8 64 (Sh.fst (Sh.cons (Sh.ros 24) (Sh.snd (Sh.cons (Sh.osl 5) Sh.nil)))) (Sh.snd (Sh.hlp 0 13330 .ready (Sh.snd (Sh.cons Sh.any (Sh.snd (Sh.cons Sh.any (Sh.snd (Sh.cons Sh.any (Sh.snd (Sh.cons (Sh.ptr 1 0) (Sh.snd (Sh.cons Sh.any (Sh.snd (Sh.cons (Sh.ptr 3 0) (Sh.snd (Sh.cons Sh.any (Sh.snd (Sh.cons (Sh.ptr 4 0) (Sh.snd (Sh.cons (Sh.ptr 6 0) (Sh.snd (Sh.cons Sh.any (Sh.snd (Sh.cons Sh.any (Sh.snd (Sh.cons Sh.any (Sh.snd (Sh.cons Sh.any (Sh.snd (Sh.cons Sh.any (Sh.snd (Sh.cons Sh.any (Sh.snd (Sh.cons Sh.any (Sh.snd (Sh.cons Sh.any (Sh.snd (Sh.cons Sh.any (Sh.snd (Sh.cons Sh.any (Sh.snd (Sh.cons Sh.any (Sh.snd (Sh.cons Sh.any (Sh.snd (Sh.cons Sh.any (Sh.snd (Sh.cons Sh.any (Sh.snd (Sh.cons Sh.any (Sh.snd (Sh.cons Sh.any (Sh.snd (Sh.cons Sh.any (Sh.snd (Sh.cons Sh.any (Sh.snd (Sh.cons Sh.any (Sh.snd (Sh.cons Sh.any (Sh.snd (Sh.cons Sh.any (Sh.snd (Sh.cons Sh.any (Sh.snd (Sh.cons Sh.any (Sh.snd (Sh.cons Sh.any (Sh.snd (Sh.cons Sh.any (Sh.snd (Sh.cons Sh.any (Sh.snd (Sh.cons Sh.any (Sh.snd (Sh.cons Sh.any (Sh.snd (Sh.cons Sh.any (Sh.snd (Sh.cons Sh.any (Sh.snd (Sh.cons Sh.any (Sh.snd (Sh.cons Sh.any (Sh.snd (Sh.cons Sh.any (Sh.snd (Sh.cons Sh.any (Sh.snd (Sh.cons Sh.any (Sh.snd (Sh.cons Sh.any (Sh.snd (Sh.cons Sh.any (Sh.snd (Sh.cons Sh.any (Sh.snd (Sh.cons Sh.any (Sh.snd (Sh.cons Sh.any (Sh.snd (Sh.cons Sh.any (Sh.snd (Sh.cons Sh.any (Sh.snd (Sh.cons Sh.any (Sh.snd (Sh.cons Sh.any (Sh.snd (Sh.cons Sh.any (Sh.snd (Sh.cons Sh.any (Sh.snd (Sh.cons Sh.any (Sh.snd (Sh.cons Sh.any (Sh.snd (Sh.cons Sh.any (Sh.snd (Sh.cons Sh.any (Sh.snd (Sh.cons Sh.any (Sh.snd (Sh.cons Sh.any (Sh.snd (Sh.cons Sh.any (Sh.snd (Sh.cons Sh.any (Sh.snd (Sh.cons Sh.any (Sh.snd (Sh.cons Sh.any (Sh.snd (Sh.cons Sh.any (Sh.snd (Sh.cons Sh.any (Sh.snd (Sh.cons Sh.any (Sh.snd (Sh.cons Sh.any (Sh.snd (Sh.cons Sh.any (Sh.snd (Sh.cons Sh.any (Sh.snd (Sh.cons Sh.any (Sh.snd (Sh.cons Sh.any (Sh.snd (Sh.cons Sh.any (Sh.snd (Sh.cons Sh.any (Sh.snd (Sh.cons Sh.any (Sh.snd (Sh.cons Sh.any (Sh.snd (Sh.cons Sh.any (Sh.snd (Sh.cons Sh.any (Sh.snd (Sh.cons Sh.any (Sh.snd (Sh.cons Sh.any (Sh.snd (Sh.cons Sh.any (Sh.snd (Sh.cons Sh.any (Sh.snd (Sh.cons Sh.any (Sh.snd (Sh.cons Sh.any (Sh.snd (Sh.cons Sh.any (Sh.snd (Sh.cons Sh.any (Sh.snd (Sh.cons Sh.any (Sh.snd (Sh.cons Sh.any (Sh.snd (Sh.cons Sh.any (Sh.snd (Sh.cons Sh.any (Sh.snd (Sh.cons Sh.any (Sh.snd (Sh.cons Sh.any (Sh.snd (Sh.cons Sh.any (Sh.snd (Sh.cons Sh.any (Sh.snd (Sh.cons Sh.any (Sh.snd (Sh.cons Sh.any (Sh.snd (Sh.cons Sh.any (Sh.snd (Sh.cons Sh.any (Sh.snd (Sh.cons Sh.any (Sh.snd (Sh.cons Sh.any (Sh.snd (Sh.cons Sh.any (Sh.snd (Sh.cons Sh.any (Sh.snd (Sh.cons Sh.any (Sh.snd (Sh.cons Sh.any (Sh.snd (Sh.cons Sh.any (Sh.snd (Sh.cons Sh.any (Sh.snd (Sh.cons Sh.any (Sh.snd (Sh.cons Sh.any (Sh.snd (Sh.cons Sh.any (Sh.snd (Sh.cons Sh.any (Sh.snd (Sh.cons Sh.any (Sh.snd (Sh.cons Sh.any (Sh.snd (Sh.cons Sh.any (Sh.snd (Sh.cons Sh.any (Sh.snd (Sh.cons Sh.any (Sh.snd (Sh.cons Sh.any (Sh.snd (Sh.cons Sh.any (Sh.snd (Sh.cons Sh.any Sh.nil)))))))))))))))))))))))))))))))))))))))))))))))))))))))))))))))))))))))))))))))))))))))))))))))))))))))))))))))))))))))))))))))))))))))))))))))))))))))))))))))))))))))))))))))))))))))))))))))))))))))))))))))))))))))))))))))))))))))))))))) (Sh.snd (Sh.hfix 6 41 (Sh.snd (Sh.cons (Sh.osl 7) Sh.nil)) (Sh.hfix 4 64 (Sh.fst (Sh.cons (Sh.ros 24) (Sh.snd (Sh.cons (Sh.osl 5) Sh.nil)))) (Sh.hfix 3 40 (Sh.cons (Sh.int .i64) (Sh.cons (Sh.int .i64) (Sh.cons (Sh.int .i64) (Sh.fst (Sh.cons (Sh.int .i64) Sh.nil))))) (Sh.snd (Sh.hfix 1 27 (Sh.snd (Sh.cons (Sh.ptr 2 0) Sh.nil)) (Sh.hfix 2 29 (Sh.fst (Sh.cons Sh.bool Sh.nil)) (Sh.hrow 5 22 (Sh.fst (Sh.hrow 7 22 Sh.hnil))))))))))))))))
def c68_0_1 : Pk G (Int × (List (Int × Int)) × (List (Int × Int)) × (Int × Int × Int × Int) × Bool × List Int × List Int) := (pk (Sh.snd (Sh.cons (Sh.yld 0) (Sh.snd (Sh.cons (Sh.ptr 8 0) (Sh.fst (Sh.cons (Sh.int .i64) Sh.nil)))))) (Sh.hfix 8 64 (Sh.fst (Sh.cons (Sh.ros 24) (Sh.snd (Sh.cons (Sh.osl 5) Sh.nil)))) (Sh.snd (Sh.hlp 0 13330 .ready (Sh.snd (Sh.cons Sh.any (Sh.snd (Sh.cons Sh.any (Sh.snd (Sh.cons Sh.any (Sh.snd (Sh.cons (Sh.ptr 1 0) (Sh.snd (Sh.cons Sh.any (Sh.snd (Sh.cons (Sh.ptr 3 0) (Sh.snd (Sh.cons Sh.any (Sh.snd (Sh.cons (Sh.ptr 4 0) (Sh.snd (Sh.cons (Sh.ptr 6 0) (Sh.snd (Sh.cons Sh.any (Sh.snd (Sh.cons Sh.any (Sh.snd (Sh.cons Sh.any (Sh.snd (Sh.cons Sh.any (Sh.snd (Sh.cons Sh.any (Sh.snd (Sh.cons Sh.any (Sh.snd (Sh.cons Sh.any (Sh.snd (Sh.cons Sh.any (Sh.snd (Sh.cons Sh.any (Sh.snd (Sh.cons Sh.any (Sh.snd (Sh.cons Sh.any (Sh.snd (Sh.cons Sh.any (Sh.snd (Sh.cons Sh.any (Sh.snd (Sh.cons Sh.any (Sh.snd (Sh.cons Sh.any (Sh.snd (Sh.cons Sh.any (Sh.snd (Sh.cons Sh.any (Sh.snd (Sh.cons Sh.any (Sh.snd (Sh.cons Sh.any (Sh.snd (Sh.cons Sh.any (Sh.snd (Sh.cons Sh.any (Sh.snd (Sh.cons Sh.any (Sh.snd (Sh.cons Sh.any (Sh.snd (Sh.cons Sh.any (Sh.snd (Sh.cons Sh.any (Sh.snd (Sh.cons Sh.any (Sh.snd (Sh.cons Sh.any (Sh.snd (Sh.cons Sh.any (Sh.snd (Sh.cons Sh.any (Sh.snd (Sh.cons Sh.any (Sh.snd (Sh.cons Sh.any (Sh.snd (Sh.cons Sh.any (Sh.snd (Sh.cons Sh.any (Sh.snd (Sh.cons Sh.any (Sh.snd (Sh.cons Sh.any (Sh.snd (Sh.cons Sh.any (Sh.snd (Sh.cons Sh.any (Sh.snd (Sh.cons Sh.any (Sh.snd (Sh.cons Sh.any (Sh.snd (Sh.cons Sh.any (Sh.snd (Sh.cons Sh.any (Sh.snd (Sh.cons Sh.any (Sh.snd (Sh.cons Sh.any (Sh.snd (Sh.cons Sh.any (Sh.snd (Sh.cons Sh.any (Sh.snd (Sh.cons Sh.any (Sh.snd (Sh.cons Sh.any (Sh.snd (Sh.cons Sh.any (Sh.snd (Sh.cons Sh.any (Sh.snd (Sh.cons Sh.any (Sh.snd (Sh.cons Sh.any (Sh.snd (Sh.cons Sh.any (Sh.snd (Sh.cons Sh.any (Sh.snd (Sh.cons Sh.any (Sh.snd (Sh.cons Sh.any (Sh.snd (Sh.cons Sh.any (Sh.snd (Sh.cons Sh.any (Sh.snd (Sh.cons Sh.any (Sh.snd (Sh.cons Sh.any (Sh.snd (Sh.cons Sh.any (Sh.snd (Sh.cons Sh.any (Sh.snd (Sh.cons Sh.any (Sh.snd (Sh.cons Sh.any (Sh.snd (Sh.cons Sh.any (Sh.snd (Sh.cons Sh.any (Sh.snd (Sh.cons Sh.any (Sh.snd (Sh.cons Sh.any (Sh.snd (Sh.cons Sh.any (Sh.snd (Sh.cons Sh.any (Sh.snd (Sh.cons Sh.any (Sh.snd (Sh.cons Sh.any (Sh.snd (Sh.cons Sh.any (Sh.snd (Sh.cons Sh.any (Sh.snd (Sh.cons Sh.any (Sh.snd (Sh.cons Sh.any (Sh.snd (Sh.cons Sh.any (Sh.snd (Sh.cons Sh.any (Sh.snd (Sh.cons Sh.any (Sh.snd (Sh.cons Sh.any (Sh.snd (Sh.cons Sh.any (Sh.snd (Sh.cons Sh.any (Sh.snd (Sh.cons Sh.any (Sh.snd (Sh.cons Sh.any (Sh.snd (Sh.cons Sh.any (Sh.snd (Sh.cons Sh.any (Sh.snd (Sh.cons Sh.any (Sh.snd (Sh.cons Sh.any (Sh.snd (Sh.cons Sh.any (Sh.snd (Sh.cons Sh.any (Sh.snd (Sh.cons Sh.any (Sh.snd (Sh.cons Sh.any (Sh.snd (Sh.cons Sh.any (Sh.snd (Sh.cons Sh.any (Sh.snd (Sh.cons Sh.any (Sh.snd (Sh.cons Sh.any (Sh.snd (Sh.cons Sh.any (Sh.snd (Sh.cons Sh.any (Sh.snd (Sh.cons Sh.any (Sh.snd (Sh.cons Sh.any (Sh.snd (Sh.cons Sh.any (Sh.snd (Sh.cons Sh.any (Sh.snd (Sh.cons Sh.any (Sh.snd (Sh.cons Sh.any (Sh.snd (Sh.cons Sh.any (Sh.snd (Sh.cons Sh.any (Sh.snd (Sh.cons Sh.any (Sh.snd (Sh.cons Sh.any (Sh.snd (Sh.cons Sh.any (Sh.snd (Sh.cons Sh.any (Sh.snd (Sh.cons Sh.any Sh.nil)))))))))))))))))))))))))))))))))))))))))))))))))))))))))))))))))))))))))))))))))))))))))))))))))))))))))))))))))))))))))))))))))))))))))))))))))))))))))))))))))))))))))))))))))))))))))))))))))))))))))))))))))))))))))))))))))))))))))))))) (Sh.snd (Sh.hfix 6 41 (Sh.snd (Sh.cons (Sh.osl 7) Sh.nil)) (Sh.hfix 4 64 (Sh.fst (Sh.cons (Sh.ros 24) (Sh.snd (Sh.cons (Sh.osl 5) Sh.nil)))) (Sh.hfix 3 40 (Sh.cons (Sh.int .i64) (Sh.cons (Sh.int .i64) (Sh.cons (Sh.int .i64) (Sh.fst (Sh.cons (Sh.int .i64) Sh.nil))))) (Sh.snd (Sh.hfix 1 27 (Sh.snd (Sh.cons (Sh.ptr 2 0) Sh.nil)) (Sh.hfix 2 29 (Sh.fst (Sh.cons Sh.bool Sh.nil)) (Sh.hrow 5 22 (Sh.fst (Sh.hrow 7 22 Sh.hnil))))))))))))))
def B68_0_1 (K : ((Int × (List (Int × Int)) × (List (Int × Int)) × (Int × Int × Int × Int) × Bool × List Int × List Int) → Option ((List (Int × Int)) × (List (Int × Int)) × (Int × Int × Int × Int) × Bool × List Int × List Int))) (v : Int × (List (Int × Int)) × (List (Int × Int)) × (Int × Int × Int × Int) × Bool × List Int × List Int) : Option ((List (Int × Int)) × (List (Int × Int)) × (Int × Int × Int × Int) × Bool × List Int × List Int) :=
  bif (decide (v.1 ≥ (0 : Int))) then
    (chk (((v.2.1).length : Int) != 0)).bind fun _ =>
    let x2161 : Int := (Int.tmod v.1 ((v.2.1).length : Int))
    (F40_0 ((v.2.1, v.2.2.2.2.2.1), x2161)).bind fun r2162 =>
    (F13330_y0 ((x2161, r2162), (v.2.2.2.2.2.2, (v.2.2.1, (v.2.2.2.2.2.1, (v.2.2.2.1, v.2.2.2.2.1)))))).bind fun r2163 =>
    bif (!r2163.1) then
      some (v.2.1, r2163.2)
    else
      let x2164 : Int := (IntKind.wrap .i64 (v.1 - (1 : Int)))
      K (x2164, (v.2.1, r2163.2))
  else
    some (v.2)

def E68_0 (K : ((Int × (List (Int × Int)) × (List (Int × Int)) × (Int × Int × Int × Int) × Bool × List Int × List Int) → Option ((List (Int × Int)) × (List (Int × Int)) × (Int × Int × Int × Int) × Bool × List Int × List Int))) (v : (List (Int × Int)) × List Int × (List (Int × Int)) × List Int × (Int × Int × Int × Int) × Bool) : Option ((List (Int × Int)) × (List (Int × Int)) × (Int × Int × Int × Int) × Bool × List Int × List Int) :=
  let x2159 : Int := (IntKind.wrap .i64 ((2 : Int) * ((v.1).length : Int)))
  let x2160 : Int := (IntKind.wrap .i64 (x2159 - (1 : Int)))
  K (x2160, (v.1, (v.2.2.1, (v.2.2.2.2.1, (v.2.2.2.2.2, (v.2.2.2.1, v.2.1))))))

def K68_0 : Nat → ((Int × (List (Int × Int)) × (List (Int × Int)) × (Int × Int × Int × Int) × Bool × List Int × List Int) → Option ((List (Int × Int)) × (List (Int × Int)) × (Int × Int × Int × Int) × Bool × List Int × List Int))
  | 0 => (fun _ => none)
  | n + 1 => (B68_0_1 (K68_0 n))
def fuel68_0 (v : (List (Int × Int)) × List Int × (List (Int × Int)) × List Int × (Int × Int × Int × Int) × Bool) : Nat := 1000
def F68_0 (v : (List (Int × Int)) × List Int × (List (Int × Int)) × List Int × (Int × Int × Int × Int) × Bool) : Option ((List (Int × Int)) × (List (Int × Int)) × (Int × Int × Int × Int) × Bool × List Int × List Int) := E68_0 (K68_0 (fuel68_0 v)) v
noncomputable def k68_0 : List (Known Try.prog E) := [Known.of envOk [9, 1] [(.agg [(.ros 24), (.ros 22)]), .keep] v40_0 F40_0 w40_0 ok40_0, Known.ofR envOk [13, 1, 1] [(.yld 0 13330 [.any, .any, .any, (.ptr 1 0 27 [(.ptr 2 0 29 [.keep])]), .any, (.ptr 3 0 40 [.keep, .keep, .keep, .keep]), .any, (.ptr 4 0 64 [(.ros 24), (.own 5 22)]), (.ptr 6 0 41 [(.own 7 22)]), .any, .any, .any, .any, .any, .any, .any, .any, .any, .any, .any, .any, .any, .any, .any, .any, .any, .any, .any, .any, .any, .any, .any, .any, .any, .any, .any, .any, .any, .any, .any, .any, .any, .any, .any, .any, .any, .any, .any, .any, .any, .any, .any, .any, .any, .any, .any, .any, .any, .any, .any, .any, .any, .any, .any, .any, .any, .any, .any, .any, .any, .any, .any, .any, .any, .any, .any, .any, .any, .any, .any, .any, .any, .any, .any, .any, .any, .any, .any, .any, .any, .any, .any, .any, .any, .any, .any, .any, .any, .any, .any, .any, .any, .any, .any, .any, .any, .any, .any, .any, .any, .any, .any, .any, .any, .any, .any, .any, .any, .any]), .keep, .keep] v13330_y0 F13330_y0 w13330_y0 ok13330_y0]
def ft68_0_0 : List Pat := [(.own 7 22), (.own 5 22), (.ptr 2 0 29 [.keep]), (.ptr 1 0 27 [(.ptr 2 0 29 [])]), (.ptr 3 0 40 [.keep, .keep, .keep, .keep]), (.ptr 4 0 64 [(.ros 24), (.own 5 22)]), (.ptr 6 0 41 [(.own 7 22)]), (.yld 0 13330 [.any, .any, .any, (.ptr 1 0 27 []), .any, (.ptr 3 0 40 []), .any, (.ptr 4 0 64 []), (.ptr 6 0 41 []), .any, .any, .any, .any, .any, .any, .any, .any, .any, .any, .any, .any, .any, .any, .any, .any, .any, .any, .any, .any, .any, .any, .any, .any, .any, .any, .any, .any, .any, .any, .any, .any, .any, .any, .any, .any, .any, .any, .any, .any, .any, .any, .any, .any, .any, .any, .any, .any, .any, .any, .any, .any, .any, .any, .any, .any, .any, .any, .any, .any, .any, .any, .any, .any, .any, .any, .any, .any, .any, .any, .any, .any, .any, .any, .any, .any, .any, .any, .any, .any, .any, .any, .any, .any, .any, .any, .any, .any, .any, .any, .any, .any, .any, .any, .any, .any, .any, .any, .any, .any, .any, .any, .any, .any, .any, .any, .any, .any, .any, .any]), (.ptr 8 0 64 [(.ros 24), (.own 5 22)])]
def s68_0_1 : List (Nat × Pat) := [(0, (.yld 0 13330 [])), (1, (.ptr 8 0 64 [])), (3, .keep)]
noncomputable def L68_0 (n id : Nat) (st : St G) : Option ((List (Int × Int)) × (List (Int × Int)) × (Int × Int × Int × Int) × Bool × List Int × List Int) := match Nat.beq id 1 with | true => cutK Try.prog s68_0_1 ft68_0_0 c68_0_1.dec (K68_0 n) st | false => none
set_option maxRecDepth 100000 in
theorem e68_0 (n : Nat) (v : (List (Int × Int)) × List Int × (List (Int × Int)) × List Int × (Int × Int × Int × Int) × Bool) : ev Try.prog E (oracle k68_0) Try.f68.ntmps (fun x => mem x [1]) (L68_0 n) (finF Try.prog E Try.f68.results.toList [ft68_0_0] w68_0.alts) 4000 [.code (Try.f68.body.getD .skip)] (argSt (v68_0.enc v)) = E68_0 (K68_0 n) v := by kernel_rfl
set_option maxRecDepth 100000 in
theorem b68_0_1 (n : Nat) (v : Int × (List (Int × Int)) × (List (Int × Int)) × (Int × Int × Int × Int) × Bool × List Int × List Int) : evCut Try.prog E (oracle k68_0) false 68 Try.f68.ntmps (fun x => mem x [1]) (L68_0 n) (finF Try.prog E Try.f68.results.toList [ft68_0_0] w68_0.alts) 4000 (todoAt (Try.f68.body.getD .skip) 1) (cutSt s68_0_1 (c68_0_1.enc v)) = B68_0_1 (K68_0 n) v := by kernel_rfl
theorem ql68_0_1 : ∀ n st, L68_0 n 1 st = cutK Try.prog s68_0_1 ft68_0_0 c68_0_1.dec (K68_0 n) st := fun _ _ => rfl
theorem qz68_0_1 : ∀ v, (K68_0 0) v = none := fun _ => rfl
theorem qe68_0_1 : ∀ n v r, (K68_0 (n + 1)) v = some r → evCut Try.prog E (oracle k68_0) false 68 Try.f68.ntmps (fun x => mem x [1]) (L68_0 n) (finF Try.prog E Try.f68.results.toList [ft68_0_0] w68_0.alts) 4000 ((lk (cutsC (Try.f68.body.getD .skip) []) 1).getD []) (cutSt s68_0_1 (c68_0_1.enc v)) = some r := fun n v _ h => (b68_0_1 n v).trans h
theorem qc68_0_1 : CutOk Try.prog E (oracle k68_0) false 68 Try.f68.ntmps [1] (finF Try.prog E Try.f68.results.toList [ft68_0_0] w68_0.alts) 4000 (cutsC (Try.f68.body.getD .skip) []) ft68_0_0 L68_0 1 := ⟨_, ft68_0_0, s68_0_1, c68_0_1.dec, c68_0_1.enc, fun n => (K68_0 n), c68_0_1.ok, ql68_0_1, qz68_0_1, by kernel_rfl, qe68_0_1⟩
set_option maxHeartbeats 4000000 in
theorem ok68_0 : FnOk Try.prog E 68 v68_0.enc F68_0 w68_0.enc :=
  fn_known (fn := Try.f68) (c := (Try.f68.body.getD .skip)) Try.func68 (by kernel_rfl) rfl envOk (oracle_ok k68_0) mixed v68_0 F68_0 w68_0 ft68_0_0 [ft68_0_0] (by kernel_rfl) [1] 4000 L68_0 (by kernel_rfl)
    (List.forall_mem_cons.2 ⟨qc68_0_1, fun _ h => (nomatch h)⟩) (fun v _ h => ⟨fuel68_0 v, (e68_0 _ v).trans h⟩) (fun _ => by kernel_rfl) (fun _ => by kernel_rfl) (fun _ _ => by kernel_rfl)
/- chicane/profile.Speeds -/
abbrev A13_0 : Type := ((List (Int × Int)) × Int × Int × Int × Int) × Bool
abbrev R13_0 : Type := List Int × Bool
def v13_0 : Pk G (((List (Int × Int)) × Int × Int × Int × Int) × Bool) := (pk (Sh.snd (Sh.cons (Sh.ptr 0 0) (Sh.cons (Sh.ros 24) (Sh.fst (Sh.cons (Sh.agg (Sh.cons (Sh.int .i64) (Sh.cons (Sh.int .i64) (Sh.cons (Sh.int .i64) (Sh.fst (Sh.cons (Sh.int .i64) Sh.nil)))))) Sh.nil))))) (Sh.fst (Sh.hfix 0 29 (Sh.fst (Sh.cons Sh.bool Sh.nil)) Sh.hnil)))
def w13_0 : Wk G (List Int × Bool) := (Wk.one [(.own 1 22)] (Pk.snd (pk (Sh.snd (Sh.cons (Sh.osl 1) Sh.nil)) (Sh.hrow 1 22 (Sh.fst (Sh.hfix 0 29 (Sh.fst (Sh.cons Sh.bool Sh.nil)) Sh.hnil))))))
def c13_0_6 : Pk G (((List (Int × Int)) × Int × Int) × List Int × (List (Int × Int)) × List Int × (Int × Int × Int × Int) × Bool) := (pk (Sh.cons (Sh.ros 24) (Sh.snd (Sh.cons (Sh.ptr 1 0) (Sh.snd (Sh.cons (Sh.ptr 2 0) (Sh.snd (Sh.cons (Sh.ptr 3 0) (Sh.snd (Sh.cons (Sh.ptr 5 0) (Sh.cons (Sh.int .i64) (Sh.fst (Sh.cons (Sh.int .i64) Sh.nil)))))))))))) (Sh.snd (Sh.hfix 5 41 (Sh.snd (Sh.cons (Sh.osl 6) Sh.nil)) (Sh.hrow 6 22 (Sh.hfix 3 64 (Sh.fst (Sh.cons (Sh.ros 24) (Sh.snd (Sh.cons (Sh.osl 4) Sh.nil)))) (Sh.hrow 4 22 (Sh.hfix 2 40 (Sh.cons (Sh.int .i64) (Sh.cons (Sh.int .i64) (Sh.cons (Sh.int .i64) (Sh.fst (Sh.cons (Sh.int .i64) Sh.nil))))) (Sh.snd (Sh.hfix 1 27 (Sh.snd (Sh.cons (Sh.ptr 0 0) Sh.nil)) (Sh.fst (Sh.hfix 0 29 (Sh.fst (Sh.cons Sh.bool Sh.nil)) Sh.hnil)))))))))))
def c13_0_14 : Pk G ((List (Int × Int)) × List Int × (List (Int × Int)) × List Int × (Int × Int × Int × Int) × Bool) := (Pk.snd (pk (Sh.snd (Sh.cons (Sh.ptr 1 0) (Sh.snd (Sh.cons (Sh.ptr 2 0) (Sh.snd (Sh.cons (Sh.ptr 3 0) (Sh.snd (Sh.cons (Sh.ptr 5 0) (Sh.snd (Sh.cons (Sh.snd (Sh.fn (.func 67) Sh.nil (Sh.snd (Sh.cons (Sh.ptr 7 0) Sh.nil)))) Sh.nil)))))))))) (Sh.hfix 7 64 (Sh.fst (Sh.cons (Sh.ros 24) (Sh.snd (Sh.cons (Sh.osl 4) Sh.nil)))) (Sh.snd (Sh.hfix 5 41 (Sh.snd (Sh.cons (Sh.osl 6) Sh.nil)) (Sh.hrow 6 22 (Sh.hfix 3 64 (Sh.fst (Sh.cons (Sh.ros 24) (Sh.snd (Sh.cons (Sh.osl 4) Sh.nil)))) (Sh.hrow 4 22 (Sh.hfix 2 40 (Sh.cons (Sh.int .i64) (Sh.cons (Sh.int .i64) (Sh.cons (Sh.int .i64) (Sh.fst (Sh.cons (Sh.int .i64) Sh.nil))))) (Sh.snd (Sh.hfix 1 27 (Sh.snd (Sh.cons (Sh.ptr 0 0) Sh.nil)) (Sh.fst (Sh.hfix 0 29 (Sh.fst (Sh.cons Sh.bool Sh.nil)) Sh.hnil)))))))))))))
def c13_0_18 : Pk G ((List (Int × Int)) × List Int × (List (Int × Int)) × List Int × (Int × Int × Int × Int) × Bool) := (Pk.snd (pk (Sh.snd (Sh.cons (Sh.ptr 1 0) (Sh.snd (Sh.cons (Sh.ptr 2 0) (Sh.snd (Sh.cons (Sh.ptr 3 0) (Sh.snd (Sh.cons (Sh.ptr 5 0) (Sh.snd (Sh.cons (Sh.snd (Sh.fn (.func 68) Sh.nil (Sh.snd (Sh.cons (Sh.ptr 7 0) Sh.nil)))) Sh.nil)))))))))) (Sh.hfix 7 64 (Sh.fst (Sh.cons (Sh.ros 24) (Sh.snd (Sh.cons (Sh.osl 4) Sh.nil)))) (Sh.snd (Sh.hfix 5 41 (Sh.snd (Sh.cons (Sh.osl 6) Sh.nil)) (Sh.hrow 6 22 (Sh.hfix 3 64 (Sh.fst (Sh.cons (Sh.ros 24) (Sh.snd (Sh.cons (Sh.osl 4) Sh.nil)))) (Sh.hrow 4 22 (Sh.hfix 2 40 (Sh.cons (Sh.int .i64) (Sh.cons (Sh.int .i64) (Sh.cons (Sh.int .i64) (Sh.fst (Sh.cons (Sh.int .i64) Sh.nil))))) (Sh.snd (Sh.hfix 1 27 (Sh.snd (Sh.cons (Sh.ptr 0 0) Sh.nil)) (Sh.fst (Sh.hfix 0 29 (Sh.fst (Sh.cons Sh.bool Sh.nil)) Sh.hnil)))))))))))))
def B13_0_6 (K : ((((List (Int × Int)) × Int × Int) × List Int × (List (Int × Int)) × List Int × (Int × Int × Int × Int) × Bool) → Option (List Int × Bool)) × (((List (Int × Int)) × List Int × (List (Int × Int)) × List Int × (Int × Int × Int × Int) × Bool) → Option (List Int × Bool)) × (((List (Int × Int)) × List Int × (List (Int × Int)) × List Int × (Int × Int × Int × Int) × Bool) → Option (List Int × Bool))) (v : ((List (Int × Int)) × Int × Int) × List Int × (List (Int × Int)) × List Int × (Int × Int × Int × Int) × Bool) : Option (List Int × Bool) :=
  bif (decide (v.1.2.2 < v.1.2.1)) then
    let x2190 : Int := (IntKind.wrap .i64 (v.1.2.2 + ((v.1.1).length : Int)))
    let x2191 : Int := (IntKind.wrap .i64 (x2190 - (1 : Int)))
    (chk (((v.1.1).length : Int) != 0)).bind fun _ =>
    let x2192 : Int := (Int.tmod x2191 ((v.1.1).length : Int))
    (rdx v.1.1 x2192).bind fun (x2193 : Int × Int) =>
    (rdx v.1.1 v.1.2.2).bind fun (x2194 : Int × Int) =>
    (F40_0 ((v.2.2.1, v.2.2.2.1), v.1.2.2)).bind fun r2195 =>
    (rdx v.1.1 r2195).bind fun (x2196 : Int × Int) =>
    (F8_0 ((x2193, (x2194, x2196)), v.2.2.2.2.2)).bind fun r2197 =>
    (F10_0 ((r2197.1, (v.2.2.2.2.1.1, v.2.2.2.2.1.2.2.2)), r2197.2)).bind fun r2198 =>
    (idx v.1.2.2 (v.2.1).length).bind fun (x2199 : Nat) =>
    ((v.2.1)[x2199]?).bind fun _ =>
    let x2201 : List Int := (v.2.1).set x2199 (r2198.1)
    let x2202 : Int := (IntKind.wrap .i64 (v.1.2.2 + (1 : Int)))
    K.1 ((v.1.1, (v.1.2.1, x2202)), (x2201, (v.2.2.1, (v.2.2.2.1, (v.2.2.2.2.1, r2198.2)))))
  else
    (F41_1 (v.2.2.1, v.2.2.2.1)).bind fun r2203 =>
    K.2.1 (r2203.1, (v.2.1, (v.2.2.1, (r2203.2, v.2.2.2.2))))

def B13_0_14 (K : ((((List (Int × Int)) × Int × Int) × List Int × (List (Int × Int)) × List Int × (Int × Int × Int × Int) × Bool) → Option (List Int × Bool)) × (((List (Int × Int)) × List Int × (List (Int × Int)) × List Int × (Int × Int × Int × Int) × Bool) → Option (List Int × Bool)) × (((List (Int × Int)) × List Int × (List (Int × Int)) × List Int × (Int × Int × Int × Int) × Bool) → Option (List Int × Bool))) (v : (List (Int × Int)) × List Int × (List (Int × Int)) × List Int × (Int × Int × Int × Int) × Bool) : Option (List Int × Bool) :=
  (F67_0 v).bind fun r2204 =>
  (F43_1 (r2204.2.1, r2204.2.2.2.2.1)).bind fun r2205 =>
  K.2.2 (r2205.1, (r2204.2.2.2.2.2, (r2204.2.1, (r2205.2, (r2204.2.2.1, r2204.2.2.2.1)))))

def B13_0_18 (K : ((((List (Int × Int)) × Int × Int) × List Int × (List (Int × Int)) × List Int × (Int × Int × Int × Int) × Bool) → Option (List Int × Bool)) × (((List (Int × Int)) × List Int × (List (Int × Int)) × List Int × (Int × Int × Int × Int) × Bool) → Option (List Int × Bool)) × (((List (Int × Int)) × List Int × (List (Int × Int)) × List Int × (Int × Int × Int × Int) × Bool) → Option (List Int × Bool))) (v : (List (Int × Int)) × List Int × (List (Int × Int)) × List Int × (Int × Int × Int × Int) × Bool) : Option (List Int × Bool) :=
  (F68_0 v).bind fun r2206 =>
  some (r2206.2.2.2.2.2, r2206.2.2.2.1)

def E13_0 (K : ((((List (Int × Int)) × Int × Int) × List Int × (List (Int × Int)) × List Int × (Int × Int × Int × Int) × Bool) → Option (List Int × Bool)) × (((List (Int × Int)) × List Int × (List (Int × Int)) × List Int × (Int × Int × Int × Int) × Bool) → Option (List Int × Bool)) × (((List (Int × Int)) × List Int × (List (Int × Int)) × List Int × (Int × Int × Int × Int) × Bool) → Option (List Int × Bool))) (v : ((List (Int × Int)) × Int × Int × Int × Int) × Bool) : Option (List Int × Bool) :=
  (F14_0 v.1.2).bind fun r2188 =>
  bif (r2188 != (0 : Int)) then
    some (([] : List Int), v.2)
  else
    bif (((v.1.1).length : Int) == (0 : Int)) then
      some (([] : List Int), v.2)
    else
      (F39_0 (v.1.1, v.2)).bind fun r2189 =>
      (chk (decide (0 ≤ ((v.1.1).length : Int) ∧ ((v.1.1).length : Int) ≤ ((v.1.1).length : Int) ∧ ((v.1.1).length : Int) * 8 ≤ 140737488355328 ∧ ((v.1.1).length : Int) ≤ 9223372036854775807))).bind fun _ =>
      K.1 ((v.1.1, (((v.1.1).length : Int), (0 : Int))), ((List.replicate (((v.1.1).length : Int)).toNat ((0 : Int) : Int)), (r2189.1, (r2189.2.1, (v.1.2, r2189.2.2)))))

def K13_0 : Nat → ((((List (Int × Int)) × Int × Int) × List Int × (List (Int × Int)) × List Int × (Int × Int × Int × Int) × Bool) → Option (List Int × Bool)) × (((List (Int × Int)) × List Int × (List (Int × Int)) × List Int × (Int × Int × Int × Int) × Bool) → Option (List Int × Bool)) × (((List (Int × Int)) × List Int × (List (Int × Int)) × List Int × (Int × Int × Int × Int) × Bool) → Option (List Int × Bool))
  | 0 => (fun _ => none, fun _ => none, fun _ => none)
  | n + 1 => (B13_0_6 (K13_0 n), B13_0_14 (K13_0 n), B13_0_18 (K13_0 n))
def fuel13_0 (v : ((List (Int × Int)) × Int × Int × Int × Int) × Bool) : Nat := 1000
def F13_0 (v : ((List (Int × Int)) × Int × Int × Int × Int) × Bool) : Option (List Int × Bool) := E13_0 (K13_0 (fuel13_0 v)) v
noncomputable def k13_0 : List (Known Try.prog E) := [Known.of envOk [9] [(.agg [.keep, .keep, .keep, .keep])] v14_0 F14_0 w14_0 ok14_0, Known.of envOk [5, 7] [(.ptr 0 0 29 [.keep]), (.ros 24)] v39_0 F39_0 w39_0 ok39_0, Known.of envOk [9, 1] [(.agg [(.ros 24), (.ros 22)]), .keep] v40_0 F40_0 w40_0 ok40_0, Known.of envOk [5, 9, 9, 9] [(.ptr 0 0 29 [.keep]), (.agg [.keep, .keep]), (.agg [.keep, .keep]), (.agg [.keep, .keep])] v8_0 F8_0 w8_0 ok8_0, Known.of envOk [5, 1, 1, 1] [(.ptr 0 0 29 [.keep]), .keep, .keep, .keep] v10_0 F10_0 w10_0 ok10_0, Known.of envOk [9] [(.agg [(.ros 24), (.own 0 22)])] v41_1 F41_1 w41_1 ok41_1, Known.of envOk [13, 5] [(.yld 0 13326 [.any, .any, .any, (.ptr 1 0 27 [(.ptr 2 0 29 [.keep])]), .any, (.ptr 3 0 40 [.keep, .keep, .keep, .keep]), .any, (.ptr 4 0 64 [(.ros 24), (.own 5 22)]), (.ptr 6 0 41 [(.own 7 22)]), .any, .any, .any, .any, .any, .any, .any, .any, .any, .any, .any, .any, .any, .any, .any, .any, .any, .any, .any, .any, .any, .any, .any, .any, .any, .any, .any, .any, .any, .any, .any, .any, .any, .any, .any, .any, .any, .any, .any, .any, .any, .any, .any, .any, .any, .any, .any, .any, .any, .any, .any, .any, .any, .any, .any, .any, .any, .any, .any, .any, .any, .any, .any, .any, .any, .any, .any, .any, .any, .any, .any, .any, .any, .any, .any, .any, .any, .any, .any, .any, .any, .any, .any, .any, .any, .any, .any, .any, .any, .any, .any, .any, .any, .any, .any, .any, .any, .any, .any, .any, .any, .any, .any, .any, .any, .any, .any, .any, .any, .any]), (.ptr 8 0 64 [(.ros 24), (.own 5 22)])] v67_0 F67_0 w67_0 ok67_0, Known.of envOk [9] [(.agg [(.ros 24), (.own 0 22)])] v43_1 F43_1 w43_1 ok43_1, Known.of envOk [13, 5] [(.yld 0 13330 [.any, .any, .any, (.ptr 1 0 27 [(.ptr 2 0 29 [.keep])]), .any, (.ptr 3 0 40 [.keep, .keep, .keep, .keep]), .any, (.ptr 4 0 64 [(.ros 24), (.own 5 22)]), (.ptr 6 0 41 [(.own 7 22)]), .any, .any, .any, .any, .any, .any, .any, .any, .any, .any, .any, .any, .any, .any, .any, .any, .any, .any, .any, .any, .any, .any, .any, .any, .any, .any, .any, .any, .any, .any, .any, .any, .any, .any, .any, .any, .any, .any, .any, .any, .any, .any, .any, .any, .any, .any, .any, .any, .any, .any, .any, .any, .any, .any, .any, .any, .any, .any, .any, .any, .any, .any, .any, .any, .any, .any, .any, .any, .any, .any, .any, .any, .any, .any, .any, .any, .any, .any, .any, .any, .any, .any, .any, .any, .any, .any, .any, .any, .any, .any, .any, .any, .any, .any, .any, .any, .any, .any, .any, .any, .any, .any, .any, .any, .any, .any, .any, .any, .any, .any]), (.ptr 8 0 64 [(.ros 24), (.own 5 22)])] v68_0 F68_0 w68_0 ok68_0]
def s13_0_18 : List (Nat × Pat) := [(3, (.ptr 1 0 27 [(.ptr 0 0 29 [])])), (5, (.ptr 2 0 40 [.keep, .keep, .keep, .keep])), (7, (.ptr 3 0 64 [(.ros 24), (.own 4 22)])), (8, (.ptr 5 0 41 [(.own 6 22)])), (94, (.fn (.func 68) [] [(.ptr 7 0 64 [(.ros 24), (.own 4 22)])]))]
def s13_0_14 : List (Nat × Pat) := [(3, (.ptr 1 0 27 [(.ptr 0 0 29 [])])), (5, (.ptr 2 0 40 [.keep, .keep, .keep, .keep])), (7, (.ptr 3 0 64 [(.ros 24), (.own 4 22)])), (8, (.ptr 5 0 41 [(.own 6 22)])), (69, (.fn (.func 67) [] [(.ptr 7 0 64 [(.ros 24), (.own 4 22)])]))]
def s13_0_6 : List (Nat × Pat) := [(1, (.ros 24)), (3, (.ptr 1 0 27 [(.ptr 0 0 29 [])])), (5, (.ptr 2 0 40 [.keep, .keep, .keep, .keep])), (7, (.ptr 3 0 64 [(.ros 24), (.own 4 22)])), (8, (.ptr 5 0 41 [(.own 6 22)])), (30, .keep), (31, .keep)]
noncomputable def L13_0 (n id : Nat) (st : St G) : Option (List Int × Bool) := match Nat.beq id 6 with | true => cutK Try.prog s13_0_6 [(.ptr 0 0 29 [.keep])] c13_0_6.dec (K13_0 n).1 st | false => match Nat.beq id 14 with | true => cutK Try.prog s13_0_14 [(.ptr 0 0 29 [.keep])] c13_0_14.dec (K13_0 n).2.1 st | false => match Nat.beq id 18 with | true => cutK Try.prog s13_0_18 [(.ptr 0 0 29 [.keep])] c13_0_18.dec (K13_0 n).2.2 st | false => none
set_option maxRecDepth 100000 in
theorem e13_0 (n : Nat) (v : ((List (Int × Int)) × Int × Int × Int × Int) × Bool) : ev Try.prog E (oracle k13_0) Try.f13.ntmps (fun x => mem x [6, 14, 18]) (L13_0 n) (finF Try.prog E Try.f13.results.toList [[(.ptr 0 0 29 [.keep])]] w13_0.alts) 4000 [.code (Try.f13.body.getD .skip)] (argSt (v13_0.enc v)) = E13_0 (K13_0 n) v := by kernel_rfl
set_option maxRecDepth 100000 in
theorem b13_0_6 (n : Nat) (v : ((List (Int × Int)) × Int × Int) × List Int × (List (Int × Int)) × List Int × (Int × Int × Int × Int) × Bool) : evCut Try.prog E (oracle k13_0) false 13 Try.f13.ntmps (fun x => mem x [6, 14, 18]) (L13_0 n) (finF Try.prog E Try.f13.results.toList [[(.ptr 0 0 29 [.keep])]] w13_0.alts) 4000 (todoAt (Try.f13.body.getD .skip) 6) (cutSt s13_0_6 (c13_0_6.enc v)) = B13_0_6 (K13_0 n) v := by kernel_rfl
set_option maxRecDepth 100000 in
theorem b13_0_14 (n : Nat) (v : (List (Int × Int)) × List Int × (List (Int × Int)) × List Int × (Int × Int × Int × Int) × Bool) : evCut Try.prog E (oracle k13_0) false 13 Try.f13.ntmps (fun x => mem x [6, 14, 18]) (L13_0 n) (finF Try.prog E Try.f13.results.toList [[(.ptr 0 0 29 [.keep])]] w13_0.alts) 4000 (todoAt (Try.f13.body.getD .skip) 14) (cutSt s13_0_14 (c13_0_14.enc v)) = B13_0_14 (K13_0 n) v := by kernel_rfl
set_option maxRecDepth 100000 in
theorem b13_0_18 (n : Nat) (v : (List (Int × Int)) × List Int × (List (Int × Int)) × List Int × (Int × Int × Int × Int) × Bool) : evCut Try.prog E (oracle k13_0) false 13 Try.f13.ntmps (fun x => mem x [6, 14, 18]) (L13_0 n) (finF Try.prog E Try.f13.results.toList [[(.ptr 0 0 29 [.keep])]] w13_0.alts) 4000 (todoAt (Try.f13.body.getD .skip) 18) (cutSt s13_0_18 (c13_0_18.enc v)) = B13_0_18 (K13_0 n) v := by kernel_rfl
theorem ok13_0 : FnOk Try.prog E 13 v13_0.enc F13_0 w13_0.enc :=
  fn_known (fn := Try.f13) (c := (Try.f13.body.getD .skip)) Try.func13 (by kernel_rfl) rfl envOk (oracle_ok k13_0) mixed v13_0 F13_0 w13_0 [(.ptr 0 0 29 [.keep])] [[(.ptr 0 0 29 [.keep])]] (by kernel_rfl) [6, 14, 18] 4000 L13_0 (by kernel_rfl)
    (List.forall_mem_cons.2 ⟨⟨_, [(.ptr 0 0 29 [.keep])], s13_0_6, c13_0_6.dec, c13_0_6.enc, fun n => (K13_0 n).1, c13_0_6.ok, fun _ _ => rfl, fun _ => rfl, by kernel_rfl, fun n v _ h => (b13_0_6 n v).trans h⟩, List.forall_mem_cons.2 ⟨⟨_, [(.ptr 0 0 29 [.keep])], s13_0_14, c13_0_14.dec, c13_0_14.enc, fun n => (K13_0 n).2.1, c13_0_14.ok, fun _ _ => rfl, fun _ => rfl, by kernel_rfl, fun n v _ h => (b13_0_14 n v).trans h⟩, List.forall_mem_cons.2 ⟨⟨_, [(.ptr 0 0 29 [.keep])], s13_0_18, c13_0_18.dec, c13_0_18.enc, fun n => (K13_0 n).2.2, c13_0_18.ok, fun _ _ => rfl, fun _ => rfl, by kernel_rfl, fun n v _ h => (b13_0_18 n v).trans h⟩, fun _ h => (nomatch h)⟩⟩⟩) (fun v _ h => ⟨fuel13_0 v, (e13_0 _ v).trans h⟩) (fun _ => by kernel_rfl) (fun _ => by kernel_rfl) (fun _ _ => by kernel_rfl)
/- chicane/profile.Lap -/
abbrev A19_0 : Type := ((List (Int × Int)) × List Int) × Bool
abbrev R19_0 : Type := Int × Bool
def v19_0 : Pk G (((List (Int × Int)) × List Int) × Bool) := (pk (Sh.snd (Sh.cons (Sh.ptr 0 0) (Sh.cons (Sh.ros 24) (Sh.fst (Sh.cons (Sh.ros 22) Sh.nil))))) (Sh.fst (Sh.hfix 0 29 (Sh.fst (Sh.cons Sh.bool Sh.nil)) Sh.hnil)))
def w19_0 : Wk G (Int × Bool) := (Wk.one [.keep] (pk (Sh.fst (Sh.cons (Sh.int .i64) Sh.nil)) (Sh.fst (Sh.hfix 0 29 (Sh.fst (Sh.cons Sh.bool Sh.nil)) Sh.hnil))))
def c19_0_6 : Pk G ((List Int × Int × Int × Int) × (List (Int × Int)) × List Int × Bool) := (pk (Sh.snd (Sh.cons (Sh.ptr 0 0) (Sh.cons (Sh.ros 22) (Sh.cons (Sh.int .i64) (Sh.snd (Sh.cons (Sh.ptr 1 0) (Sh.snd (Sh.cons (Sh.osl 2) (Sh.cons (Sh.int .i64) (Sh.fst (Sh.cons (Sh.int .i64) Sh.nil))))))))))) (Sh.hfix 1 64 (Sh.fst (Sh.cons (Sh.ros 24) (Sh.snd (Sh.cons (Sh.osl 2) Sh.nil)))) (Sh.hrow 2 22 (Sh.fst (Sh.hfix 0 29 (Sh.fst (Sh.cons Sh.bool Sh.nil)) Sh.hnil)))))
def B19_0_6 (K : (((List Int × Int × Int × Int) × (List (Int × Int)) × List Int × Bool) → Option (Int × Bool))) (v : (List Int × Int × Int × Int) × (List (Int × Int)) × List Int × Bool) : Option (Int × Bool) :=
  bif (decide (v.1.2.2.2 < v.1.2.2.1)) then
    (idx v.1.2.2.2 (v.2.2.1).length).bind fun (x2243 : Nat) =>
    ((v.2.2.1)[x2243]?).bind fun (x2244 : Int) =>
    (rdx v.1.1 v.1.2.2.2).bind fun (x2245 : Int) =>
    (F40_0 ((v.2.1, v.2.2.1), v.1.2.2.2)).bind fun r2246 =>
    (rdx v.1.1 r2246).bind fun (x2247 : Int) =>
    (F25_0 ((x2245, x2247), v.2.2.2)).bind fun r2248 =>
    (F26_0 ((r2248.1, (2147483648 : Int)), r2248.2)).bind fun r2249 =>
    let x2250 : Int := (if (268435456 : Int) > r2249.1 then (268435456 : Int) else r2249.1)
    (F29_0 ((x2244, x2250), r2249.2)).bind fun r2251 =>
    (F25_0 ((v.1.2.1, r2251.1), r2251.2)).bind fun r2252 =>
    let x2253 : Int := (IntKind.wrap .i64 (v.1.2.2.2 + (1 : Int)))
    K ((v.1.1, (r2252.1, (v.1.2.2.1, x2253))), (v.2.1, (v.2.2.1, r2252.2)))
  else
    some (v.1.2.1, v.2.2.2)

def E19_0 (K : (((List Int × Int × Int × Int) × (List (Int × Int)) × List Int × Bool) → Option (Int × Bool))) (v : ((List (Int × Int)) × List Int) × Bool) : Option (Int × Bool) :=
  bif (((v.1.2).length : Int) != ((v.1.1).length : Int)) then
    some ((0 : Int), v.2)
  else
    bif (((v.1.1).length : Int) == (0 : Int)) then
      some ((0 : Int), v.2)
    else
      (F39_0 (v.1.1, v.2)).bind fun r2242 =>
      K ((v.1.2, ((0 : Int), (((r2242.2.1).length : Int), (0 : Int)))), r2242)

def K19_0 : Nat → (((List Int × Int × Int × Int) × (List (Int × Int)) × List Int × Bool) → Option (Int × Bool))
  | 0 => (fun _ => none)
  | n + 1 => (B19_0_6 (K19_0 n))
def fuel19_0 (v : ((List (Int × Int)) × List Int) × Bool) : Nat := 1000
def F19_0 (v : ((List (Int × Int)) × List Int) × Bool) : Option (Int × Bool) := E19_0 (K19_0 (fuel19_0 v)) v
noncomputable def k19_0 : List (Known Try.prog E) := [Known.of envOk [5, 7] [(.ptr 0 0 29 [.keep]), (.ros 24)] v39_0 F39_0 w39_0 ok39_0, Known.of envOk [9, 1] [(.agg [(.ros 24), (.ros 22)]), .keep] v40_0 F40_0 w40_0 ok40_0, Known.of envOk [5, 1, 1] [(.ptr 0 0 29 [.keep]), .keep, .keep] v25_0 F25_0 w25_0 ok25_0, Known.of envOk [5, 1, 1] [(.ptr 0 0 29 [.keep]), .keep, .keep] v26_0 F26_0 w26_0 ok26_0, Known.of envOk [5, 1, 1] [(.ptr 0 0 29 [.keep]), .keep, .keep] v29_0 F29_0 w29_0 ok29_0]
def s19_0_6 : List (Nat × Pat) := [(0, (.ptr 0 0 29 [])), (2, (.ros 22)), (7, .keep), (8, (.ptr 1 0 64 [(.ros 24), (.own 2 22)])), (27, (.own 2 22)), (28, .keep), (29, .keep)]
noncomputable def L19_0 (n id : Nat) (st : St G) : Option (Int × Bool) := match Nat.beq id 6 with | true => cutK Try.prog s19_0_6 [(.ptr 0 0 29 [.keep])] c19_0_6.dec (K19_0 n) st | false => none
set_option maxRecDepth 100000 in
theorem e19_0 (n : Nat) (v : ((List (Int × Int)) × List Int) × Bool) : ev Try.prog E (oracle k19_0) Try.f19.ntmps (fun x => mem x [6]) (L19_0 n) (finF Try.prog E Try.f19.results.toList [[(.ptr 0 0 29 [.keep])]] w19_0.alts) 4000 [.code (Try.f19.body.getD .skip)] (argSt (v19_0.enc v)) = E19_0 (K19_0 n) v := by kernel_rfl
set_option maxRecDepth 100000 in
theorem b19_0_6 (n : Nat) (v : (List Int × Int × Int × Int) × (List (Int × Int)) × List Int × Bool) : evCut Try.prog E (oracle k19_0) false 19 Try.f19.ntmps (fun x => mem x [6]) (L19_0 n) (finF Try.prog E Try.f19.results.toList [[(.ptr 0 0 29 [.keep])]] w19_0.alts) 4000 (todoAt (Try.f19.body.getD .skip) 6) (cutSt s19_0_6 (c19_0_6.enc v)) = B19_0_6 (K19_0 n) v := by kernel_rfl
theorem ok19_0 : FnOk Try.prog E 19 v19_0.enc F19_0 w19_0.enc :=
  fn_known (fn := Try.f19) (c := (Try.f19.body.getD .skip)) Try.func19 (by kernel_rfl) rfl envOk (oracle_ok k19_0) mixed v19_0 F19_0 w19_0 [(.ptr 0 0 29 [.keep])] [[(.ptr 0 0 29 [.keep])]] (by kernel_rfl) [6] 4000 L19_0 (by kernel_rfl)
    (List.forall_mem_cons.2 ⟨⟨_, [(.ptr 0 0 29 [.keep])], s19_0_6, c19_0_6.dec, c19_0_6.enc, fun n => (K19_0 n), c19_0_6.ok, fun _ _ => rfl, fun _ => rfl, by kernel_rfl, fun n v _ h => (b19_0_6 n v).trans h⟩, fun _ h => (nomatch h)⟩) (fun v _ h => ⟨fuel19_0 v, (e19_0 _ v).trans h⟩) (fun _ => by kernel_rfl) (fun _ => by kernel_rfl) (fun _ _ => by kernel_rfl)
/- chicane/chicanelaw52.awake -/
abbrev A12_0 : Type := Unit
abbrev R12_0 : Type := Bool
def v12_0 : Pk G Unit := (Pk.snd (pk Sh.nil Sh.hnil))
def w12_0 : Wk G Bool := (Wk.one [.keep] (Pk.fst (pk (Sh.fst (Sh.cons Sh.bool Sh.nil)) Sh.hnil)))
def F12_0 (v : Unit) : Option Bool :=
  (F38_0 ()).bind fun r2266 =>
  (F13_0 ((r2266.2, r2266.1), false)).bind fun r2267 =>
  (F8_0 ((((0 : Int), (0 : Int)), (((4294967296 : Int), (0 : Int)), ((12884901888 : Int), (0 : Int)))), r2267.2)).bind fun r2268 =>
  bif (r2268.1 == (0 : Int)) then
    bif (((r2267.1).length : Int) == (4 : Int)) then
      (idx (0 : Int) (r2267.1).length).bind fun (x2269 : Nat) =>
      ((r2267.1)[x2269]?).bind fun (x2270 : Int) =>
      bif (decide (x2270 > (4294967296 : Int))) then
        (idx (0 : Int) (r2267.1).length).bind fun (x2271 : Nat) =>
        ((r2267.1)[x2271]?).bind fun (x2272 : Int) =>
        (idx (2 : Int) (r2267.1).length).bind fun (x2273 : Nat) =>
        ((r2267.1)[x2273]?).bind fun (x2274 : Int) =>
        bif (x2272 == x2274) then
          (F14_0 ((0 : Int), ((0 : Int), ((0 : Int), (0 : Int))))).bind fun r2275 =>
          bif (r2275 == (40 : Int)) then
            (F19_0 ((r2266.2, r2267.1), r2268.2)).bind fun r2276 =>
            bif (decide (r2276.1 > (4294967296 : Int))) then
              some (!r2276.2)
            else
              some (false)
          else
            some (false)
        else
          some (false)
      else
        some (false)
    else
      some (false)
  else
    some (false)

noncomputable def k12_0 : List (Known Try.prog E) := [Known.of envOk [] [] v38_0 F38_0 w38_0 ok38_0, Known.of envOk [5, 7, 9] [(.ptr 0 0 29 [.keep]), (.ros 24), (.agg [.keep, .keep, .keep, .keep])] v13_0 F13_0 w13_0 ok13_0, Known.of envOk [5, 9, 9, 9] [(.ptr 0 0 29 [.keep]), (.agg [.keep, .keep]), (.agg [.keep, .keep]), (.agg [.keep, .keep])] v8_0 F8_0 w8_0 ok8_0, Known.of envOk [9] [(.agg [.keep, .keep, .keep, .keep])] v14_0 F14_0 w14_0 ok14_0, Known.of envOk [5, 7, 7] [(.ptr 0 0 29 [.keep]), (.ros 24), (.ros 22)] v19_0 F19_0 w19_0 ok19_0]
noncomputable def L12_0 (n id : Nat) (st : St G) : Option Bool := none
set_option maxRecDepth 100000 in
theorem e12_0 (n : Nat) (v : Unit) : ev Try.prog E (oracle k12_0) Try.f12.ntmps (fun x => mem x []) (L12_0 n) (finF Try.prog E Try.f12.results.toList [[]] w12_0.alts) 4000 [.code (Try.f12.body.getD .skip)] (argSt (v12_0.enc v)) = F12_0 v := by kernel_rfl
theorem ok12_0 : FnOk Try.prog E 12 v12_0.enc F12_0 w12_0.enc :=
  fn_known (fn := Try.f12) (c := (Try.f12.body.getD .skip)) Try.func12 (by kernel_rfl) rfl envOk (oracle_ok k12_0) mixed v12_0 F12_0 w12_0 [] [[]] (by kernel_rfl) [] 4000 L12_0 (by kernel_rfl)
    (fun _ h => nomatch h) (fun v _ h => ⟨0, (e12_0 _ v).trans h⟩) (fun _ => by kernel_rfl) (fun _ => by kernel_rfl) (fun _ _ => by kernel_rfl)
/- chicane/chicanelaw52.ProfileBend -/
abbrev A3_0 : Type := (Int × Int × Int × Int × Int × Int) × Int × Int × Int
abbrev R3_0 : Type := Bool
def v3_0 : Pk G ((Int × Int × Int × Int × Int × Int) × Int × Int × Int) := (Pk.fst (pk (Sh.cons (Sh.agg (Sh.cons (Sh.int .i64) (Sh.cons (Sh.int .i64) (Sh.cons (Sh.int .i64) (Sh.cons (Sh.int .i64) (Sh.cons (Sh.int .i64) (Sh.fst (Sh.cons (Sh.int .i64) Sh.nil)))))))) (Sh.fst (Sh.cons (Sh.agg (Sh.cons (Sh.int .i64) (Sh.cons (Sh.int .i64) (Sh.fst (Sh.cons (Sh.int .i64) Sh.nil))))) Sh.nil))) Sh.hnil))
def w3_0 : Wk G Bool := (Wk.one [.keep] (Pk.fst (pk (Sh.fst (Sh.cons Sh.bool Sh.nil)) Sh.hnil)))
def F3_0 (v : (Int × Int × Int × Int × Int × Int) × Int × Int × Int) : Option Bool :=
  (F8_0 (((v.1.1, v.1.2.1), ((v.1.2.2.1, v.1.2.2.2.1), v.1.2.2.2.2)), false)).bind fun r2283 =>
  (F9_0 (((v.1.1, v.1.2.1), ((v.1.2.2.1, v.1.2.2.2.1), v.1.2.2.2.2)), false)).bind fun r2284 =>
  bif (r2283.1 != r2284.1) then
    some (false)
  else
    bif (!(r2283.2 == r2284.2)) then
      some (false)
    else
      (F10_0 (v.2, r2283.2)).bind fun r2285 =>
      (F11_0 (v.2, r2284.2)).bind fun r2286 =>
      bif (r2285.1 == r2286.1) then
        bif (r2285.2 == r2286.2) then
          (F12_0 ()).bind fun r2287 =>
          some (r2287)
        else
          some (false)
      else
        some (false)

noncomputable def k3_0 : List (Known Try.prog E) := [Known.of envOk [5, 9, 9, 9] [(.ptr 0 0 29 [.keep]), (.agg [.keep, .keep]), (.agg [.keep, .keep]), (.agg [.keep, .keep])] v8_0 F8_0 w8_0 ok8_0, Known.of envOk [5, 9, 9, 9] [(.ptr 0 0 31 [.keep]), (.agg [.keep, .keep]), (.agg [.keep, .keep]), (.agg [.keep, .keep])] v9_0 F9_0 w9_0 ok9_0, Known.of envOk [5, 1, 1, 1] [(.ptr 0 0 29 [.keep]), .keep, .keep, .keep] v10_0 F10_0 w10_0 ok10_0, Known.of envOk [5, 1, 1, 1] [(.ptr 0 0 31 [.keep]), .keep, .keep, .keep] v11_0 F11_0 w11_0 ok11_0, Known.of envOk [] [] v12_0 F12_0 w12_0 ok12_0]
noncomputable def L3_0 (n id : Nat) (st : St G) : Option Bool := none
set_option maxRecDepth 100000 in
theorem e3_0 (n : Nat) (v : (Int × Int × Int × Int × Int × Int) × Int × Int × Int) : ev Try.prog E (oracle k3_0) Try.f3.ntmps (fun x => mem x []) (L3_0 n) (finF Try.prog E Try.f3.results.toList [[]] w3_0.alts) 4000 [.code (Try.f3.body.getD .skip)] (argSt (v3_0.enc v)) = F3_0 v := by kernel_rfl
theorem ok3_0 : FnOk Try.prog E 3 v3_0.enc F3_0 w3_0.enc :=
  fn_known (fn := Try.f3) (c := (Try.f3.body.getD .skip)) Try.func3 (by kernel_rfl) rfl envOk (oracle_ok k3_0) mixed v3_0 F3_0 w3_0 [] [[]] (by kernel_rfl) [] 4000 L3_0 (by kernel_rfl)
    (fun _ h => nomatch h) (fun v _ h => ⟨0, (e3_0 _ v).trans h⟩) (fun _ => by kernel_rfl) (fun _ => by kernel_rfl) (fun _ _ => by kernel_rfl)
/- chicane/chicanelaw52.plain -/
abbrev A16_0 : Type := Int × Int × Int × Int
abbrev R16_0 : Type := Int × Int × Int × Int
def v16_0 : Pk G (Int × Int × Int × Int) := (Pk.fst (pk (Sh.fst (Sh.cons (Sh.agg (Sh.cons (Sh.int .i64) (Sh.cons (Sh.int .i64) (Sh.cons (Sh.int .i64) (Sh.fst (Sh.cons (Sh.int .i64) Sh.nil)))))) Sh.nil)) Sh.hnil))
def w16_0 : Wk G (Int × Int × Int × Int) := (Wk.one [(.agg [.keep, .keep, .keep, .keep])] (Pk.fst (pk (Sh.fst (Sh.cons (Sh.agg (Sh.cons (Sh.int .i64) (Sh.cons (Sh.int .i64) (Sh.cons (Sh.int .i64) (Sh.fst (Sh.cons (Sh.int .i64) Sh.nil)))))) Sh.nil)) Sh.hnil)))
def F16_0 (v : Int × Int × Int × Int) : Option (Int × Int × Int × Int) :=
  some (v)

noncomputable def k16_0 : List (Known Try.prog E) := []
noncomputable def L16_0 (n id : Nat) (st : St G) : Option (Int × Int × Int × Int) := none
set_option maxRecDepth 100000 in
theorem e16_0 (n : Nat) (v : Int × Int × Int × Int) : ev Try.prog E (oracle k16_0) Try.f16.ntmps (fun x => mem x []) (L16_0 n) (finF Try.prog E Try.f16.results.toList [[]] w16_0.alts) 4000 [.code (Try.f16.body.getD .skip)] (argSt (v16_0.enc v)) = F16_0 v := by kernel_rfl
theorem ok16_0 : FnOk Try.prog E 16 v16_0.enc F16_0 w16_0.enc :=
  fn_known (fn := Try.f16) (c := (Try.f16.body.getD .skip)) Try.func16 (by kernel_rfl) rfl envOk (oracle_ok k16_0) mixed v16_0 F16_0 w16_0 [] [[]] (by kernel_rfl) [] 4000 L16_0 (by kernel_rfl)
    (fun _ h => nomatch h) (fun v _ h => ⟨0, (e16_0 _ v).trans h⟩) (fun _ => by kernel_rfl) (fun _ => by kernel_rfl) (fun _ _ => by kernel_rfl)
/- chicane/chicaneref52.in -/
abbrev A46_0 : Type := Int × Int × Int
abbrev R46_0 : Type := Bool
def v46_0 : Pk G (Int × Int × Int) := (Pk.fst (pk (Sh.cons (Sh.int .i64) (Sh.cons (Sh.int .i64) (Sh.fst (Sh.cons (Sh.int .i64) Sh.nil)))) Sh.hnil))
def w46_0 : Wk G Bool := (Wk.one [.keep] (Pk.fst (pk (Sh.fst (Sh.cons Sh.bool Sh.nil)) Sh.hnil)))
def F46_0 (v : Int × Int × Int) : Option Bool :=
  bif (decide (v.1 ≥ v.2.1)) then
    some (decide (v.1 ≤ v.2.2))
  else
    some (false)

noncomputable def k46_0 : List (Known Try.prog E) := []
noncomputable def L46_0 (n id : Nat) (st : St G) : Option Bool := none
set_option maxRecDepth 100000 in
theorem e46_0 (n : Nat) (v : Int × Int × Int) : ev Try.prog E (oracle k46_0) Try.f46.ntmps (fun x => mem x []) (L46_0 n) (finF Try.prog E Try.f46.results.toList [[]] w46_0.alts) 4000 [.code (Try.f46.body.getD .skip)] (argSt (v46_0.enc v)) = F46_0 v := by kernel_rfl
theorem ok46_0 : FnOk Try.prog E 46 v46_0.enc F46_0 w46_0.enc :=
  fn_known (fn := Try.f46) (c := (Try.f46.body.getD .skip)) Try.func46 (by kernel_rfl) rfl envOk (oracle_ok k46_0) mixed v46_0 F46_0 w46_0 [] [[]] (by kernel_rfl) [] 4000 L46_0 (by kernel_rfl)
    (fun _ h => nomatch h) (fun v _ h => ⟨0, (e46_0 _ v).trans h⟩) (fun _ => by kernel_rfl) (fun _ => by kernel_rfl) (fun _ _ => by kernel_rfl)
/- chicane/chicaneref52.Right -/
abbrev A15_0 : Type := Int × Int × Int × Int
abbrev R15_0 : Type := Int
def v15_0 : Pk G (Int × Int × Int × Int) := (Pk.fst (pk (Sh.fst (Sh.cons (Sh.agg (Sh.cons (Sh.int .i64) (Sh.cons (Sh.int .i64) (Sh.cons (Sh.int .i64) (Sh.fst (Sh.cons (Sh.int .i64) Sh.nil)))))) Sh.nil)) Sh.hnil))
def w15_0 : Wk G Int := (Wk.one [.keep] (Pk.fst (pk (Sh.fst (Sh.cons (Sh.int .i64) Sh.nil)) Sh.hnil)))
def F15_0 (v : Int × Int × Int × Int) : Option Int :=
  (F46_0 (v.1, ((268435456 : Int), (274877906944 : Int)))).bind fun r2299 =>
  bif r2299 then
    (F46_0 (v.2.1, ((0 : Int), (274877906944 : Int)))).bind fun r2300 =>
    bif r2300 then
      (F46_0 (v.2.2.1, ((0 : Int), (274877906944 : Int)))).bind fun r2301 =>
      bif r2301 then
        (F46_0 (v.2.2.2, ((4294967296 : Int), (549755813888 : Int)))).bind fun r2302 =>
        bif r2302 then
          some (0 : Int)
        else
          some (40 : Int)
      else
        some (40 : Int)
    else
      some (40 : Int)
  else
    some (40 : Int)

noncomputable def k15_0 : List (Known Try.prog E) := [Known.of envOk [1, 1, 1] [.keep, .keep, .keep] v46_0 F46_0 w46_0 ok46_0]
noncomputable def L15_0 (n id : Nat) (st : St G) : Option Int := none
set_option maxRecDepth 100000 in
theorem e15_0 (n : Nat) (v : Int × Int × Int × Int) : ev Try.prog E (oracle k15_0) Try.f15.ntmps (fun x => mem x []) (L15_0 n) (finF Try.prog E Try.f15.results.toList [[]] w15_0.alts) 4000 [.code (Try.f15.body.getD .skip)] (argSt (v15_0.enc v)) = F15_0 v := by kernel_rfl
theorem ok15_0 : FnOk Try.prog E 15 v15_0.enc F15_0 w15_0.enc :=
  fn_known (fn := Try.f15) (c := (Try.f15.body.getD .skip)) Try.func15 (by kernel_rfl) rfl envOk (oracle_ok k15_0) mixed v15_0 F15_0 w15_0 [] [[]] (by kernel_rfl) [] 4000 L15_0 (by kernel_rfl)
    (fun _ h => nomatch h) (fun v _ h => ⟨0, (e15_0 _ v).trans h⟩) (fun _ => by kernel_rfl) (fun _ => by kernel_rfl) (fun _ _ => by kernel_rfl)
/- chicane/chicaneref52.reach -/
abbrev A47_0 : Type := (Int × Int × Int) × Bool
abbrev R47_0 : Type := Int × Bool
def v47_0 : Pk G ((Int × Int × Int) × Bool) := (pk (Sh.snd (Sh.cons (Sh.ptr 0 0) (Sh.cons (Sh.int .i64) (Sh.cons (Sh.int .i64) (Sh.fst (Sh.cons (Sh.int .i64) Sh.nil)))))) (Sh.fst (Sh.hfix 0 31 (Sh.fst (Sh.cons Sh.bool Sh.nil)) Sh.hnil)))
def w47_0 : Wk G (Int × Bool) := (Wk.one [.keep] (pk (Sh.fst (Sh.cons (Sh.int .i64) Sh.nil)) (Sh.fst (Sh.hfix 0 31 (Sh.fst (Sh.cons Sh.bool Sh.nil)) Sh.hnil))))
def F47_0 (v : (Int × Int × Int) × Bool) : Option (Int × Bool) :=
  (F32_0 ((v.1.1, v.1.1), v.2)).bind fun r2341 =>
  (F36_0 ((v.1.2.1, v.1.2.1), r2341.2)).bind fun r2342 =>
  (F32_0 ((r2342.1, v.1.2.2), r2342.2)).bind fun r2343 =>
  (F36_0 ((r2341.1, r2343.1), r2343.2)).bind fun r2344 =>
  (F37_0 r2344.1).bind fun r2345 =>
  some (r2345, r2344.2)

noncomputable def k47_0 : List (Known Try.prog E) := [Known.of envOk [5, 1, 1] [(.ptr 0 0 31 [.keep]), .keep, .keep] v32_0 F32_0 w32_0 ok32_0, Known.of envOk [5, 1, 1] [(.ptr 0 0 31 [.keep]), .keep, .keep] v36_0 F36_0 w36_0 ok36_0, Known.of envOk [1] [.keep] v37_0 F37_0 w37_0 ok37_0]
noncomputable def L47_0 (n id : Nat) (st : St G) : Option (Int × Bool) := none
set_option maxRecDepth 100000 in
theorem e47_0 (n : Nat) (v : (Int × Int × Int) × Bool) : ev Try.prog E (oracle k47_0) Try.f47.ntmps (fun x => mem x []) (L47_0 n) (finF Try.prog E Try.f47.results.toList [[(.ptr 0 0 31 [.keep])]] w47_0.alts) 4000 [.code (Try.f47.body.getD .skip)] (argSt (v47_0.enc v)) = F47_0 v := by kernel_rfl
theorem ok47_0 : FnOk Try.prog E 47 v47_0.enc F47_0 w47_0.enc :=
  fn_known (fn := Try.f47) (c := (Try.f47.body.getD .skip)) Try.func47 (by kernel_rfl) rfl envOk (oracle_ok k47_0) mixed v47_0 F47_0 w47_0 [(.ptr 0 0 31 [.keep])] [[(.ptr 0 0 31 [.keep])]] (by kernel_rfl) [] 4000 L47_0 (by kernel_rfl)
    (fun _ h => nomatch h) (fun v _ h => ⟨0, (e47_0 _ v).trans h⟩) (fun _ => by kernel_rfl) (fun _ => by kernel_rfl) (fun _ _ => by kernel_rfl)
/- chicane/chicaneref52.Speeds -/
abbrev A18_0 : Type := ((List (Int × Int)) × Int × Int × Int × Int) × Bool
abbrev R18_0 : Type := List Int × Bool
def v18_0 : Pk G (((List (Int × Int)) × Int × Int × Int × Int) × Bool) := (pk (Sh.snd (Sh.cons (Sh.ptr 0 0) (Sh.cons (Sh.ros 24) (Sh.fst (Sh.cons (Sh.agg (Sh.cons (Sh.int .i64) (Sh.cons (Sh.int .i64) (Sh.cons (Sh.int .i64) (Sh.fst (Sh.cons (Sh.int .i64) Sh.nil)))))) Sh.nil))))) (Sh.fst (Sh.hfix 0 31 (Sh.fst (Sh.cons Sh.bool Sh.nil)) Sh.hnil)))
def w18_0 : Wk G (List Int × Bool) := (Wk.one [(.own 1 22)] (Pk.snd (pk (Sh.snd (Sh.cons (Sh.osl 1) Sh.nil)) (Sh.hrow 1 22 (Sh.fst (Sh.hfix 0 31 (Sh.fst (Sh.cons Sh.bool Sh.nil)) Sh.hnil))))))
def c18_0_6 : Pk G (((List (Int × Int)) × Int × Int) × List Int × (Int × Int × Int × Int) × Bool) := (pk (Sh.snd (Sh.cons (Sh.ptr 0 0) (Sh.cons (Sh.ros 24) (Sh.snd (Sh.cons (Sh.ptr 1 0) (Sh.snd (Sh.cons (Sh.osl 2) (Sh.cons (Sh.int .i64) (Sh.fst (Sh.cons (Sh.int .i64) Sh.nil)))))))))) (Sh.hrow 2 22 (Sh.hfix 1 46 (Sh.cons (Sh.int .i64) (Sh.cons (Sh.int .i64) (Sh.cons (Sh.int .i64) (Sh.fst (Sh.cons (Sh.int .i64) Sh.nil))))) (Sh.fst (Sh.hfix 0 31 (Sh.fst (Sh.cons Sh.bool Sh.nil)) Sh.hnil)))))
def c18_0_10 : Pk G (((List (Int × Int)) × Int × Int) × List Int × (Int × Int × Int × Int) × Bool) := (pk (Sh.snd (Sh.cons (Sh.ptr 0 0) (Sh.cons (Sh.ros 24) (Sh.snd (Sh.cons (Sh.ptr 1 0) (Sh.snd (Sh.cons (Sh.osl 2) (Sh.cons (Sh.int .i64) (Sh.fst (Sh.cons (Sh.int .i64) Sh.nil)))))))))) (Sh.hrow 2 22 (Sh.hfix 1 46 (Sh.cons (Sh.int .i64) (Sh.cons (Sh.int .i64) (Sh.cons (Sh.int .i64) (Sh.fst (Sh.cons (Sh.int .i64) Sh.nil))))) (Sh.fst (Sh.hfix 0 31 (Sh.fst (Sh.cons Sh.bool Sh.nil)) Sh.hnil)))))
def c18_0_16 : Pk G (((List (Int × Int)) × Int × Int) × List Int × (Int × Int × Int × Int) × Bool) := (pk (Sh.snd (Sh.cons (Sh.ptr 0 0) (Sh.cons (Sh.ros 24) (Sh.snd (Sh.cons (Sh.ptr 1 0) (Sh.snd (Sh.cons (Sh.osl 2) (Sh.cons (Sh.int .i64) (Sh.fst (Sh.cons (Sh.int .i64) Sh.nil)))))))))) (Sh.hrow 2 22 (Sh.hfix 1 46 (Sh.cons (Sh.int .i64) (Sh.cons (Sh.int .i64) (Sh.cons (Sh.int .i64) (Sh.fst (Sh.cons (Sh.int .i64) Sh.nil))))) (Sh.fst (Sh.hfix 0 31 (Sh.fst (Sh.cons Sh.bool Sh.nil)) Sh.hnil)))))
def B18_0_6 (K : ((((List (Int × Int)) × Int × Int) × List Int × (Int × Int × Int × Int) × Bool) → Option (List Int × Bool)) × ((((List (Int × Int)) × Int × Int) × List Int × (Int × Int × Int × Int) × Bool) → Option (List Int × Bool)) × ((((List (Int × Int)) × Int × Int) × List Int × (Int × Int × Int × Int) × Bool) → Option (List Int × Bool))) (v : ((List (Int × Int)) × Int × Int) × List Int × (Int × Int × Int × Int) × Bool) : Option (List Int × Bool) :=
  bif (decide (v.1.2.2 < v.1.2.1)) then
    let x2423 : Int := (IntKind.wrap .i64 (v.1.2.2 + v.1.2.1))
    let x2424 : Int := (IntKind.wrap .i64 (x2423 - (1 : Int)))
    (chk (v.1.2.1 != 0)).bind fun _ =>
    let x2425 : Int := (Int.tmod x2424 v.1.2.1)
    (rdx v.1.1 x2425).bind fun (x2426 : Int × Int) =>
    (rdx v.1.1 v.1.2.2).bind fun (x2427 : Int × Int) =>
    let x2428 : Int := (IntKind.wrap .i64 (v.1.2.2 + (1 : Int)))
    (chk (v.1.2.1 != 0)).bind fun _ =>
    let x2429 : Int := (Int.tmod x2428 v.1.2.1)
    (rdx v.1.1 x2429).bind fun (x2430 : Int × Int) =>
    (F9_0 ((x2426, (x2427, x2430)), v.2.2.2)).bind fun r2431 =>
    (F11_0 ((r2431.1, (v.2.2.1.1, v.2.2.1.2.2.2)), r2431.2)).bind fun r2432 =>
    (chk (decide (((v.2.1).length + (([r2432.1] : List Int)).length) * 8 ≤ 140737488355328))).bind fun _ =>
    let x2433 : List Int := (v.2.1 ++ ([r2432.1] : List Int))
    let x2434 : Int := (IntKind.wrap .i64 (v.1.2.2 + (1 : Int)))
    K.1 ((v.1.1, (v.1.2.1, x2434)), (x2433, (v.2.2.1, r2432.2)))
  else
    K.2.1 ((v.1.1, (v.1.2.1, (0 : Int))), v.2)

def B18_0_10 (K : ((((List (Int × Int)) × Int × Int) × List Int × (Int × Int × Int × Int) × Bool) → Option (List Int × Bool)) × ((((List (Int × Int)) × Int × Int) × List Int × (Int × Int × Int × Int) × Bool) → Option (List Int × Bool)) × ((((List (Int × Int)) × Int × Int) × List Int × (Int × Int × Int × Int) × Bool) → Option (List Int × Bool))) (v : ((List (Int × Int)) × Int × Int) × List Int × (Int × Int × Int × Int) × Bool) : Option (List Int × Bool) :=
  let x2435 : Int := (IntKind.wrap .i64 ((2 : Int) * v.1.2.1))
  bif (decide (v.1.2.2 < x2435)) then
    (chk (v.1.2.1 != 0)).bind fun _ =>
    let x2436 : Int := (Int.tmod v.1.2.2 v.1.2.1)
    let x2437 : Int := (IntKind.wrap .i64 (v.1.2.2 + (1 : Int)))
    (chk (v.1.2.1 != 0)).bind fun _ =>
    let x2438 : Int := (Int.tmod x2437 v.1.2.1)
    (idx x2438 (v.2.1).length).bind fun (x2439 : Nat) =>
    ((v.2.1)[x2439]?).bind fun (x2440 : Int) =>
    (idx x2436 (v.2.1).length).bind fun (x2441 : Nat) =>
    ((v.2.1)[x2441]?).bind fun (x2442 : Int) =>
    (rdx v.1.1 x2436).bind fun (x2443 : Int × Int) =>
    (rdx v.1.1 x2438).bind fun (x2444 : Int × Int) =>
    (F33_0 ((x2443, x2444), v.2.2.2)).bind fun r2445 =>
    (F47_0 ((x2442, (v.2.2.1.2.1, r2445.1)), r2445.2)).bind fun r2446 =>
    let x2447 : Int := (if r2446.1 < x2440 then r2446.1 else x2440)
    (idx x2438 (v.2.1).length).bind fun (x2448 : Nat) =>
    ((v.2.1)[x2448]?).bind fun _ =>
    let x2450 : List Int := (v.2.1).set x2448 (x2447)
    let x2451 : Int := (IntKind.wrap .i64 (v.1.2.2 + (1 : Int)))
    K.2.1 ((v.1.1, (v.1.2.1, x2451)), (x2450, (v.2.2.1, r2446.2)))
  else
    let x2452 : Int := (IntKind.wrap .i64 ((2 : Int) * v.1.2.1))
    let x2453 : Int := (IntKind.wrap .i64 (x2452 - (1 : Int)))
    K.2.2 ((v.1.1, (v.1.2.1, x2453)), v.2)

def B18_0_16 (K : ((((List (Int × Int)) × Int × Int) × List Int × (Int × Int × Int × Int) × Bool) → Option (List Int × Bool)) × ((((List (Int × Int)) × Int × Int) × List Int × (Int × Int × Int × Int) × Bool) → Option (List Int × Bool)) × ((((List (Int × Int)) × Int × Int) × List Int × (Int × Int × Int × Int) × Bool) → Option (List Int × Bool))) (v : ((List (Int × Int)) × Int × Int) × List Int × (Int × Int × Int × Int) × Bool) : Option (List Int × Bool) :=
  bif (decide (v.1.2.2 ≥ (0 : Int))) then
    (chk (v.1.2.1 != 0)).bind fun _ =>
    let x2454 : Int := (Int.tmod v.1.2.2 v.1.2.1)
    let x2455 : Int := (IntKind.wrap .i64 (v.1.2.2 + (1 : Int)))
    (chk (v.1.2.1 != 0)).bind fun _ =>
    let x2456 : Int := (Int.tmod x2455 v.1.2.1)
    (idx x2454 (v.2.1).length).bind fun (x2457 : Nat) =>
    ((v.2.1)[x2457]?).bind fun (x2458 : Int) =>
    (idx x2456 (v.2.1).length).bind fun (x2459 : Nat) =>
    ((v.2.1)[x2459]?).bind fun (x2460 : Int) =>
    (rdx v.1.1 x2454).bind fun (x2461 : Int × Int) =>
    (rdx v.1.1 x2456).bind fun (x2462 : Int × Int) =>
    (F33_0 ((x2461, x2462), v.2.2.2)).bind fun r2463 =>
    (F47_0 ((x2460, (v.2.2.1.2.2.1, r2463.1)), r2463.2)).bind fun r2464 =>
    let x2465 : Int := (if r2464.1 < x2458 then r2464.1 else x2458)
    (idx x2454 (v.2.1).length).bind fun (x2466 : Nat) =>
    ((v.2.1)[x2466]?).bind fun _ =>
    let x2468 : List Int := (v.2.1).set x2466 (x2465)
    let x2469 : Int := (IntKind.wrap .i64 (v.1.2.2 - (1 : Int)))
    K.2.2 ((v.1.1, (v.1.2.1, x2469)), (x2468, (v.2.2.1, r2464.2)))
  else
    some (v.2.1, v.2.2.2)

def E18_0 (K : ((((List (Int × Int)) × Int × Int) × List Int × (Int × Int × Int × Int) × Bool) → Option (List Int × Bool)) × ((((List (Int × Int)) × Int × Int) × List Int × (Int × Int × Int × Int) × Bool) → Option (List Int × Bool)) × ((((List (Int × Int)) × Int × Int) × List Int × (Int × Int × Int × Int) × Bool) → Option (List Int × Bool))) (v : ((List (Int × Int)) × Int × Int × Int × Int) × Bool) : Option (List Int × Bool) :=
  (F15_0 v.1.2).bind fun r2422 =>
  bif (r2422 != (0 : Int)) then
    some (([] : List Int), v.2)
  else
    K.1 ((v.1.1, (((v.1.1).length : Int), (0 : Int))), (([] : List Int), (v.1.2, v.2)))

def K18_0 : Nat → ((((List (Int × Int)) × Int × Int) × List Int × (Int × Int × Int × Int) × Bool) → Option (List Int × Bool)) × ((((List (Int × Int)) × Int × Int) × List Int × (Int × Int × Int × Int) × Bool) → Option (List Int × Bool)) × ((((List (Int × Int)) × Int × Int) × List Int × (Int × Int × Int × Int) × Bool) → Option (List Int × Bool))
  | 0 => (fun _ => none, fun _ => none, fun _ => none)
  | n + 1 => (B18_0_6 (K18_0 n), B18_0_10 (K18_0 n), B18_0_16 (K18_0 n))
def fuel18_0 (v : ((List (Int × Int)) × Int × Int × Int × Int) × Bool) : Nat := 1000
def F18_0 (v : ((List (Int × Int)) × Int × Int × Int × Int) × Bool) : Option (List Int × Bool) := E18_0 (K18_0 (fuel18_0 v)) v
noncomputable def k18_0 : List (Known Try.prog E) := [Known.of envOk [9] [(.agg [.keep, .keep, .keep, .keep])] v15_0 F15_0 w15_0 ok15_0, Known.of envOk [5, 9, 9, 9] [(.ptr 0 0 31 [.keep]), (.agg [.keep, .keep]), (.agg [.keep, .keep]), (.agg [.keep, .keep])] v9_0 F9_0 w9_0 ok9_0, Known.of envOk [5, 1, 1, 1] [(.ptr 0 0 31 [.keep]), .keep, .keep, .keep] v11_0 F11_0 w11_0 ok11_0, Known.of envOk [5, 9, 9] [(.ptr 0 0 31 [.keep]), (.agg [.keep, .keep]), (.agg [.keep, .keep])] v33_0 F33_0 w33_0 ok33_0, Known.of envOk [5, 1, 1, 1] [(.ptr 0 0 31 [.keep]), .keep, .keep, .keep] v47_0 F47_0 w47_0 ok47_0]
def s18_0_16 : List (Nat × Pat) := [(0, (.ptr 0 0 31 [])), (1, (.ros 24)), (5, (.ptr 1 0 46 [.keep, .keep, .keep, .keep])), (7, (.own 2 22)), (8, .keep), (13, .keep)]
def s18_0_10 : List (Nat × Pat) := [(0, (.ptr 0 0 31 [])), (1, (.ros 24)), (5, (.ptr 1 0 46 [.keep, .keep, .keep, .keep])), (7, (.own 2 22)), (8, .keep), (10, .keep)]
def s18_0_6 : List (Nat × Pat) := [(0, (.ptr 0 0 31 [])), (1, (.ros 24)), (5, (.ptr 1 0 46 [.keep, .keep, .keep, .keep])), (7, (.own 2 22)), (8, .keep), (9, .keep)]
noncomputable def L18_0 (n id : Nat) (st : St G) : Option (List Int × Bool) := match Nat.beq id 6 with | true => cutK Try.prog s18_0_6 [(.ptr 0 0 31 [.keep])] c18_0_6.dec (K18_0 n).1 st | false => match Nat.beq id 10 with | true => cutK Try.prog s18_0_10 [(.ptr 0 0 31 [.keep])] c18_0_10.dec (K18_0 n).2.1 st | false => match Nat.beq id 16 with | true => cutK Try.prog s18_0_16 [(.ptr 0 0 31 [.keep])] c18_0_16.dec (K18_0 n).2.2 st | false => none
set_option maxRecDepth 100000 in
theorem e18_0 (n : Nat) (v : ((List (Int × Int)) × Int × Int × Int × Int) × Bool) : ev Try.prog E (oracle k18_0) Try.f18.ntmps (fun x => mem x [6, 10, 16]) (L18_0 n) (finF Try.prog E Try.f18.results.toList [[(.ptr 0 0 31 [.keep])]] w18_0.alts) 4000 [.code (Try.f18.body.getD .skip)] (argSt (v18_0.enc v)) = E18_0 (K18_0 n) v := by kernel_rfl
set_option maxRecDepth 100000 in
theorem b18_0_6 (n : Nat) (v : ((List (Int × Int)) × Int × Int) × List Int × (Int × Int × Int × Int) × Bool) : evCut Try.prog E (oracle k18_0) false 18 Try.f18.ntmps (fun x => mem x [6, 10, 16]) (L18_0 n) (finF Try.prog E Try.f18.results.toList [[(.ptr 0 0 31 [.keep])]] w18_0.alts) 4000 (todoAt (Try.f18.body.getD .skip) 6) (cutSt s18_0_6 (c18_0_6.enc v)) = B18_0_6 (K18_0 n) v := by kernel_rfl
set_option maxRecDepth 100000 in
theorem b18_0_10 (n : Nat) (v : ((List (Int × Int)) × Int × Int) × List Int × (Int × Int × Int × Int) × Bool) : evCut Try.prog E (oracle k18_0) false 18 Try.f18.ntmps (fun x => mem x [6, 10, 16]) (L18_0 n) (finF Try.prog E Try.f18.results.toList [[(.ptr 0 0 31 [.keep])]] w18_0.alts) 4000 (todoAt (Try.f18.body.getD .skip) 10) (cutSt s18_0_10 (c18_0_10.enc v)) = B18_0_10 (K18_0 n) v := by kernel_rfl
set_option maxRecDepth 100000 in
theorem b18_0_16 (n : Nat) (v : ((List (Int × Int)) × Int × Int) × List Int × (Int × Int × Int × Int) × Bool) : evCut Try.prog E (oracle k18_0) false 18 Try.f18.ntmps (fun x => mem x [6, 10, 16]) (L18_0 n) (finF Try.prog E Try.f18.results.toList [[(.ptr 0 0 31 [.keep])]] w18_0.alts) 4000 (todoAt (Try.f18.body.getD .skip) 16) (cutSt s18_0_16 (c18_0_16.enc v)) = B18_0_16 (K18_0 n) v := by kernel_rfl
theorem ok18_0 : FnOk Try.prog E 18 v18_0.enc F18_0 w18_0.enc :=
  fn_known (fn := Try.f18) (c := (Try.f18.body.getD .skip)) Try.func18 (by kernel_rfl) rfl envOk (oracle_ok k18_0) mixed v18_0 F18_0 w18_0 [(.ptr 0 0 31 [.keep])] [[(.ptr 0 0 31 [.keep])]] (by kernel_rfl) [6, 10, 16] 4000 L18_0 (by kernel_rfl)
    (List.forall_mem_cons.2 ⟨⟨_, [(.ptr 0 0 31 [.keep])], s18_0_6, c18_0_6.dec, c18_0_6.enc, fun n => (K18_0 n).1, c18_0_6.ok, fun _ _ => rfl, fun _ => rfl, by kernel_rfl, fun n v _ h => (b18_0_6 n v).trans h⟩, List.forall_mem_cons.2 ⟨⟨_, [(.ptr 0 0 31 [.keep])], s18_0_10, c18_0_10.dec, c18_0_10.enc, fun n => (K18_0 n).2.1, c18_0_10.ok, fun _ _ => rfl, fun _ => rfl, by kernel_rfl, fun n v _ h => (b18_0_10 n v).trans h⟩, List.forall_mem_cons.2 ⟨⟨_, [(.ptr 0 0 31 [.keep])], s18_0_16, c18_0_16.dec, c18_0_16.enc, fun n => (K18_0 n).2.2, c18_0_16.ok, fun _ _ => rfl, fun _ => rfl, by kernel_rfl, fun n v _ h => (b18_0_16 n v).trans h⟩, fun _ h => (nomatch h)⟩⟩⟩) (fun v _ h => ⟨fuel18_0 v, (e18_0 _ v).trans h⟩) (fun _ => by kernel_rfl) (fun _ => by kernel_rfl) (fun _ _ => by kernel_rfl)
/- chicane/chicanelaw52.numbers -/
abbrev A17_0 : Type := List Int × List Int
abbrev R17_0 : Type := Bool
def v17_0 : Pk G (List Int × List Int) := (Pk.fst (pk (Sh.cons (Sh.ros 22) (Sh.fst (Sh.cons (Sh.ros 22) Sh.nil))) Sh.hnil))
def w17_0 : Wk G Bool := (Wk.one [.keep] (Pk.fst (pk (Sh.fst (Sh.cons Sh.bool Sh.nil)) Sh.hnil)))
def c17_0_4 : Pk G (List Int × List Int × Int) := (Pk.fst (pk (Sh.cons (Sh.ros 22) (Sh.cons (Sh.ros 22) (Sh.fst (Sh.cons (Sh.int .i64) Sh.nil)))) Sh.hnil))
def B17_0_4 (K : ((List Int × List Int × Int) → Option Bool)) (v : List Int × List Int × Int) : Option Bool :=
  bif (decide (v.2.2 < ((v.1).length : Int))) then
    (rdx v.1 v.2.2).bind fun (x2479 : Int) =>
    (rdx v.2.1 v.2.2).bind fun (x2480 : Int) =>
    bif (x2479 != x2480) then
      some (false)
    else
      let x2481 : Int := (IntKind.wrap .i64 (v.2.2 + (1 : Int)))
      K (v.1, (v.2.1, x2481))
  else
    some (true)

def E17_0 (K : ((List Int × List Int × Int) → Option Bool)) (v : List Int × List Int) : Option Bool :=
  bif (((v.1).length : Int) != ((v.2).length : Int)) then
    some (false)
  else
    K (v.1, (v.2, (0 : Int)))

def K17_0 : Nat → ((List Int × List Int × Int) → Option Bool)
  | 0 => (fun _ => none)
  | n + 1 => (B17_0_4 (K17_0 n))
def fuel17_0 (v : List Int × List Int) : Nat := 1000
def F17_0 (v : List Int × List Int) : Option Bool := E17_0 (K17_0 (fuel17_0 v)) v
noncomputable def k17_0 : List (Known Try.prog E) := []
def s17_0_4 : List (Nat × Pat) := [(0, (.ros 22)), (1, (.ros 22)), (5, .keep)]
noncomputable def L17_0 (n id : Nat) (st : St G) : Option Bool := match Nat.beq id 4 with | true => cutK Try.prog s17_0_4 [] c17_0_4.dec (K17_0 n) st | false => none
set_option maxRecDepth 100000 in
theorem e17_0 (n : Nat) (v : List Int × List Int) : ev Try.prog E (oracle k17_0) Try.f17.ntmps (fun x => mem x [4]) (L17_0 n) (finF Try.prog E Try.f17.results.toList [[]] w17_0.alts) 4000 [.code (Try.f17.body.getD .skip)] (argSt (v17_0.enc v)) = E17_0 (K17_0 n) v := by kernel_rfl
set_option maxRecDepth 100000 in
theorem b17_0_4 (n : Nat) (v : List Int × List Int × Int) : evCut Try.prog E (oracle k17_0) false 17 Try.f17.ntmps (fun x => mem x [4]) (L17_0 n) (finF Try.prog E Try.f17.results.toList [[]] w17_0.alts) 4000 (todoAt (Try.f17.body.getD .skip) 4) (cutSt s17_0_4 (c17_0_4.enc v)) = B17_0_4 (K17_0 n) v := by kernel_rfl
theorem ok17_0 : FnOk Try.prog E 17 v17_0.enc F17_0 w17_0.enc :=
  fn_known (fn := Try.f17) (c := (Try.f17.body.getD .skip)) Try.func17 (by kernel_rfl) rfl envOk (oracle_ok k17_0) mixed v17_0 F17_0 w17_0 [] [[]] (by kernel_rfl) [4] 4000 L17_0 (by kernel_rfl)
    (List.forall_mem_cons.2 ⟨⟨_, [], s17_0_4, c17_0_4.dec, c17_0_4.enc, fun n => (K17_0 n), c17_0_4.ok, fun _ _ => rfl, fun _ => rfl, by kernel_rfl, fun n v _ h => (b17_0_4 n v).trans h⟩, fun _ h => (nomatch h)⟩) (fun v _ h => ⟨fuel17_0 v, (e17_0 _ v).trans h⟩) (fun _ => by kernel_rfl) (fun _ => by kernel_rfl) (fun _ _ => by kernel_rfl)
/- chicane/chicaneref52.Lap -/
abbrev A20_0 : Type := ((List (Int × Int)) × List Int) × Bool
abbrev R20_0 : Type := Int × Bool
def v20_0 : Pk G (((List (Int × Int)) × List Int) × Bool) := (pk (Sh.snd (Sh.cons (Sh.ptr 0 0) (Sh.cons (Sh.ros 24) (Sh.fst (Sh.cons (Sh.ros 22) Sh.nil))))) (Sh.fst (Sh.hfix 0 31 (Sh.fst (Sh.cons Sh.bool Sh.nil)) Sh.hnil)))
def w20_0 : Wk G (Int × Bool) := (Wk.one [.keep] (pk (Sh.fst (Sh.cons (Sh.int .i64) Sh.nil)) (Sh.fst (Sh.hfix 0 31 (Sh.fst (Sh.cons Sh.bool Sh.nil)) Sh.hnil))))
def c20_0_5 : Pk G (((List (Int × Int)) × List Int × Int × Int) × Bool) := (pk (Sh.snd (Sh.cons (Sh.ptr 0 0) (Sh.cons (Sh.ros 24) (Sh.cons (Sh.ros 22) (Sh.cons (Sh.int .i64) (Sh.fst (Sh.cons (Sh.int .i64) Sh.nil))))))) (Sh.fst (Sh.hfix 0 31 (Sh.fst (Sh.cons Sh.bool Sh.nil)) Sh.hnil)))
def B20_0_5 (K : ((((List (Int × Int)) × List Int × Int × Int) × Bool) → Option (Int × Bool))) (v : ((List (Int × Int)) × List Int × Int × Int) × Bool) : Option (Int × Bool) :=
  bif (decide (v.1.2.2.2 < ((v.1.1).length : Int))) then
    let x2512 : Int := (IntKind.wrap .i64 (v.1.2.2.2 + (1 : Int)))
    (chk (((v.1.1).length : Int) != 0)).bind fun _ =>
    let x2513 : Int := (Int.tmod x2512 ((v.1.1).length : Int))
    (rdx v.1.2.1 v.1.2.2.2).bind fun (x2514 : Int) =>
    (rdx v.1.2.1 x2513).bind fun (x2515 : Int) =>
    (F36_0 ((x2514, x2515), v.2)).bind fun r2516 =>
    (F32_0 ((r2516.1, (2147483648 : Int)), r2516.2)).bind fun r2517 =>
    let x2518 : Int := (if (268435456 : Int) > r2517.1 then (268435456 : Int) else r2517.1)
    (rdx v.1.1 v.1.2.2.2).bind fun (x2519 : Int × Int) =>
    (rdx v.1.1 x2513).bind fun (x2520 : Int × Int) =>
    (F33_0 ((x2519, x2520), r2517.2)).bind fun r2521 =>
    (F34_0 ((r2521.1, x2518), r2521.2)).bind fun r2522 =>
    (F36_0 ((v.1.2.2.1, r2522.1), r2522.2)).bind fun r2523 =>
    let x2524 : Int := (IntKind.wrap .i64 (v.1.2.2.2 + (1 : Int)))
    K ((v.1.1, (v.1.2.1, (r2523.1, x2524))), r2523.2)
  else
    some (v.1.2.2.1, v.2)

def E20_0 (K : ((((List (Int × Int)) × List Int × Int × Int) × Bool) → Option (Int × Bool))) (v : ((List (Int × Int)) × List Int) × Bool) : Option (Int × Bool) :=
  bif (((v.1.2).length : Int) != ((v.1.1).length : Int)) then
    some ((0 : Int), v.2)
  else
    K ((v.1.1, (v.1.2, ((0 : Int), (0 : Int)))), v.2)

def K20_0 : Nat → ((((List (Int × Int)) × List Int × Int × Int) × Bool) → Option (Int × Bool))
  | 0 => (fun _ => none)
  | n + 1 => (B20_0_5 (K20_0 n))
def fuel20_0 (v : ((List (Int × Int)) × List Int) × Bool) : Nat := 1000
def F20_0 (v : ((List (Int × Int)) × List Int) × Bool) : Option (Int × Bool) := E20_0 (K20_0 (fuel20_0 v)) v
noncomputable def k20_0 : List (Known Try.prog E) := [Known.of envOk [5, 1, 1] [(.ptr 0 0 31 [.keep]), .keep, .keep] v36_0 F36_0 w36_0 ok36_0, Known.of envOk [5, 1, 1] [(.ptr 0 0 31 [.keep]), .keep, .keep] v32_0 F32_0 w32_0 ok32_0, Known.of envOk [5, 9, 9] [(.ptr 0 0 31 [.keep]), (.agg [.keep, .keep]), (.agg [.keep, .keep])] v33_0 F33_0 w33_0 ok33_0, Known.of envOk [5, 1, 1] [(.ptr 0 0 31 [.keep]), .keep, .keep] v34_0 F34_0 w34_0 ok34_0]
def s20_0_5 : List (Nat × Pat) := [(0, (.ptr 0 0 31 [])), (1, (.ros 24)), (2, (.ros 22)), (7, .keep), (8, .keep)]
noncomputable def L20_0 (n id : Nat) (st : St G) : Option (Int × Bool) := match Nat.beq id 5 with | true => cutK Try.prog s20_0_5 [(.ptr 0 0 31 [.keep])] c20_0_5.dec (K20_0 n) st | false => none
set_option maxRecDepth 100000 in
theorem e20_0 (n : Nat) (v : ((List (Int × Int)) × List Int) × Bool) : ev Try.prog E (oracle k20_0) Try.f20.ntmps (fun x => mem x [5]) (L20_0 n) (finF Try.prog E Try.f20.results.toList [[(.ptr 0 0 31 [.keep])]] w20_0.alts) 4000 [.code (Try.f20.body.getD .skip)] (argSt (v20_0.enc v)) = E20_0 (K20_0 n) v := by kernel_rfl
set_option maxRecDepth 100000 in
theorem b20_0_5 (n : Nat) (v : ((List (Int × Int)) × List Int × Int × Int) × Bool) : evCut Try.prog E (oracle k20_0) false 20 Try.f20.ntmps (fun x => mem x [5]) (L20_0 n) (finF Try.prog E Try.f20.results.toList [[(.ptr 0 0 31 [.keep])]] w20_0.alts) 4000 (todoAt (Try.f20.body.getD .skip) 5) (cutSt s20_0_5 (c20_0_5.enc v)) = B20_0_5 (K20_0 n) v := by kernel_rfl
theorem ok20_0 : FnOk Try.prog E 20 v20_0.enc F20_0 w20_0.enc :=
  fn_known (fn := Try.f20) (c := (Try.f20.body.getD .skip)) Try.func20 (by kernel_rfl) rfl envOk (oracle_ok k20_0) mixed v20_0 F20_0 w20_0 [(.ptr 0 0 31 [.keep])] [[(.ptr 0 0 31 [.keep])]] (by kernel_rfl) [5] 4000 L20_0 (by kernel_rfl)
    (List.forall_mem_cons.2 ⟨⟨_, [(.ptr 0 0 31 [.keep])], s20_0_5, c20_0_5.dec, c20_0_5.enc, fun n => (K20_0 n), c20_0_5.ok, fun _ _ => rfl, fun _ => rfl, by kernel_rfl, fun n v _ h => (b20_0_5 n v).trans h⟩, fun _ h => (nomatch h)⟩) (fun v _ h => ⟨fuel20_0 v, (e20_0 _ v).trans h⟩) (fun _ => by kernel_rfl) (fun _ => by kernel_rfl) (fun _ _ => by kernel_rfl)
/- chicane/chicanelaw52.ProfileSpeeds -/
abbrev A4_0 : Type := (List (Int × Int)) × Int × Int × Int × Int
abbrev R4_0 : Type := Bool
def v4_0 : Pk G ((List (Int × Int)) × Int × Int × Int × Int) := (Pk.fst (pk (Sh.cons (Sh.ros 24) (Sh.fst (Sh.cons (Sh.agg (Sh.cons (Sh.int .i64) (Sh.cons (Sh.int .i64) (Sh.cons (Sh.int .i64) (Sh.fst (Sh.cons (Sh.int .i64) Sh.nil)))))) Sh.nil))) Sh.hnil))
def w4_0 : Wk G Bool := (Wk.one [.keep] (Pk.fst (pk (Sh.fst (Sh.cons Sh.bool Sh.nil)) Sh.hnil)))
def F4_0 (v : (List (Int × Int)) × Int × Int × Int × Int) : Option Bool :=
  bif (decide (((v.1).length : Int) > (100 : Int))) then
    some (true)
  else
    (F13_0 (v, false)).bind fun r2537 =>
    (F14_0 v.2).bind fun r2538 =>
    (F16_0 v.2).bind fun r2539 =>
    (F15_0 r2539).bind fun r2540 =>
    bif (r2538 != r2540) then
      some (false)
    else
      (F16_0 v.2).bind fun r2541 =>
      (F18_0 ((v.1, r2541), false)).bind fun r2542 =>
      (F17_0 (r2537.1, r2542.1)).bind fun r2543 =>
      bif (!r2543) then
        some (false)
      else
        bif (!(r2537.2 == r2542.2)) then
          some (false)
        else
          (F19_0 ((v.1, r2537.1), r2537.2)).bind fun r2544 =>
          (F20_0 ((v.1, r2537.1), r2542.2)).bind fun r2545 =>
          bif (r2544.1 == r2545.1) then
            bif (r2544.2 == r2545.2) then
              (F12_0 ()).bind fun r2546 =>
              some (r2546)
            else
              some (false)
          else
            some (false)

noncomputable def k4_0 : List (Known Try.prog E) := [Known.of envOk [5, 7, 9] [(.ptr 0 0 29 [.keep]), (.ros 24), (.agg [.keep, .keep, .keep, .keep])] v13_0 F13_0 w13_0 ok13_0, Known.of envOk [9] [(.agg [.keep, .keep, .keep, .keep])] v14_0 F14_0 w14_0 ok14_0, Known.of envOk [9] [(.agg [.keep, .keep, .keep, .keep])] v16_0 F16_0 w16_0 ok16_0, Known.of envOk [9] [(.agg [.keep, .keep, .keep, .keep])] v15_0 F15_0 w15_0 ok15_0, Known.of envOk [5, 7, 9] [(.ptr 0 0 31 [.keep]), (.ros 24), (.agg [.keep, .keep, .keep, .keep])] v18_0 F18_0 w18_0 ok18_0, Known.of envOk [7, 7] [(.ros 22), (.ros 22)] v17_0 F17_0 w17_0 ok17_0, Known.of envOk [5, 7, 7] [(.ptr 0 0 29 [.keep]), (.ros 24), (.ros 22)] v19_0 F19_0 w19_0 ok19_0, Known.of envOk [5, 7, 7] [(.ptr 0 0 31 [.keep]), (.ros 24), (.ros 22)] v20_0 F20_0 w20_0 ok20_0, Known.of envOk [] [] v12_0 F12_0 w12_0 ok12_0]
noncomputable def L4_0 (n id : Nat) (st : St G) : Option Bool := none
set_option maxRecDepth 100000 in
theorem e4_0 (n : Nat) (v : (List (Int × Int)) × Int × Int × Int × Int) : ev Try.prog E (oracle k4_0) Try.f4.ntmps (fun x => mem x []) (L4_0 n) (finF Try.prog E Try.f4.results.toList [[]] w4_0.alts) 4000 [.code (Try.f4.body.getD .skip)] (argSt (v4_0.enc v)) = F4_0 v := by kernel_rfl
theorem ok4_0 : FnOk Try.prog E 4 v4_0.enc F4_0 w4_0.enc :=
  fn_known (fn := Try.f4) (c := (Try.f4.body.getD .skip)) Try.func4 (by kernel_rfl) rfl envOk (oracle_ok k4_0) mixed v4_0 F4_0 w4_0 [] [[]] (by kernel_rfl) [] 4000 L4_0 (by kernel_rfl)
    (fun _ h => nomatch h) (fun v _ h => ⟨0, (e4_0 _ v).trans h⟩) (fun _ => by kernel_rfl) (fun _ => by kernel_rfl) (fun _ _ => by kernel_rfl)
/- chicane/chicanelaw52.ProfileLap -/
abbrev A5_0 : Type := (List (Int × Int)) × List Int
abbrev R5_0 : Type := Bool
def v5_0 : Pk G ((List (Int × Int)) × List Int) := (Pk.fst (pk (Sh.cons (Sh.ros 24) (Sh.fst (Sh.cons (Sh.ros 22) Sh.nil))) Sh.hnil))
def w5_0 : Wk G Bool := (Wk.one [.keep] (Pk.fst (pk (Sh.fst (Sh.cons Sh.bool Sh.nil)) Sh.hnil)))
def F5_0 (v : (List (Int × Int)) × List Int) : Option Bool :=
  bif (decide (((v.1).length : Int) > (100 : Int))) then
    some (true)
  else
    bif (decide (((v.2).length : Int) > (100 : Int))) then
      some (true)
    else
      (F19_0 (v, false)).bind fun r2553 =>
      (F20_0 (v, false)).bind fun r2554 =>
      bif (r2553.1 == r2554.1) then
        bif (r2553.2 == r2554.2) then
          (F12_0 ()).bind fun r2555 =>
          some (r2555)
        else
          some (false)
      else
        some (false)

noncomputable def k5_0 : List (Known Try.prog E) := [Known.of envOk [5, 7, 7] [(.ptr 0 0 29 [.keep]), (.ros 24), (.ros 22)] v19_0 F19_0 w19_0 ok19_0, Known.of envOk [5, 7, 7] [(.ptr 0 0 31 [.keep]), (.ros 24), (.ros 22)] v20_0 F20_0 w20_0 ok20_0, Known.of envOk [] [] v12_0 F12_0 w12_0 ok12_0]
noncomputable def L5_0 (n id : Nat) (st : St G) : Option Bool := none
set_option maxRecDepth 100000 in
theorem e5_0 (n : Nat) (v : (List (Int × Int)) × List Int) : ev Try.prog E (oracle k5_0) Try.f5.ntmps (fun x => mem x []) (L5_0 n) (finF Try.prog E Try.f5.results.toList [[]] w5_0.alts) 4000 [.code (Try.f5.body.getD .skip)] (argSt (v5_0.enc v)) = F5_0 v := by kernel_rfl
theorem ok5_0 : FnOk Try.prog E 5 v5_0.enc F5_0 w5_0.enc :=
  fn_known (fn := Try.f5) (c := (Try.f5.body.getD .skip)) Try.func5 (by kernel_rfl) rfl envOk (oracle_ok k5_0) mixed v5_0 F5_0 w5_0 [] [[]] (by kernel_rfl) [] 4000 L5_0 (by kernel_rfl)
    (fun _ h => nomatch h) (fun v _ h => ⟨0, (e5_0 _ v).trans h⟩) (fun _ => by kernel_rfl) (fun _ => by kernel_rfl) (fun _ _ => by kernel_rfl)
/- chicane/chicanelaw52.near -/
abbrev A21_0 : Type := List (Int × Int)
abbrev R21_0 : Type := Bool
def v21_0 : Pk G (List (Int × Int)) := (Pk.fst (pk (Sh.fst (Sh.cons (Sh.ros 24) Sh.nil)) Sh.hnil))
def w21_0 : Wk G Bool := (Wk.one [.keep] (Pk.fst (pk (Sh.fst (Sh.cons Sh.bool Sh.nil)) Sh.hnil)))
def c21_0_2 : Pk G ((List (Int × Int)) × Int) := (Pk.fst (pk (Sh.cons (Sh.ros 24) (Sh.fst (Sh.cons (Sh.int .i64) Sh.nil))) Sh.hnil))
def B21_0_2 (K : (((List (Int × Int)) × Int) → Option Bool)) (v : (List (Int × Int)) × Int) : Option Bool :=
  bif (decide (v.2 < ((v.1).length : Int))) then
    (rdx v.1 v.2).bind fun (x2569 : Int × Int) =>
    bif (decide (x2569.1 > (2199023255552 : Int))) then
      some (false)
    else
      (rdx v.1 v.2).bind fun (x2570 : Int × Int) =>
      bif (decide (x2570.1 < (-2199023255552 : Int))) then
        some (false)
      else
        (rdx v.1 v.2).bind fun (x2571 : Int × Int) =>
        bif (decide (x2571.2 > (2199023255552 : Int))) then
          some (false)
        else
          (rdx v.1 v.2).bind fun (x2572 : Int × Int) =>
          bif (decide (x2572.2 < (-2199023255552 : Int))) then
            some (false)
          else
            let x2573 : Int := (IntKind.wrap .i64 (v.2 + (1 : Int)))
            K (v.1, x2573)
  else
    some (true)

def E21_0 (K : (((List (Int × Int)) × Int) → Option Bool)) (v : List (Int × Int)) : Option Bool :=
  K (v, (0 : Int))

def K21_0 : Nat → (((List (Int × Int)) × Int) → Option Bool)
  | 0 => (fun _ => none)
  | n + 1 => (B21_0_2 (K21_0 n))
def fuel21_0 (v : List (Int × Int)) : Nat := 1000
def F21_0 (v : List (Int × Int)) : Option Bool := E21_0 (K21_0 (fuel21_0 v)) v
noncomputable def k21_0 : List (Known Try.prog E) := []
def s21_0_2 : List (Nat × Pat) := [(0, (.ros 24)), (3, .keep)]
noncomputable def L21_0 (n id : Nat) (st : St G) : Option Bool := match Nat.beq id 2 with | true => cutK Try.prog s21_0_2 [] c21_0_2.dec (K21_0 n) st | false => none
set_option maxRecDepth 100000 in
theorem e21_0 (n : Nat) (v : List (Int × Int)) : ev Try.prog E (oracle k21_0) Try.f21.ntmps (fun x => mem x [2]) (L21_0 n) (finF Try.prog E Try.f21.results.toList [[]] w21_0.alts) 4000 [.code (Try.f21.body.getD .skip)] (argSt (v21_0.enc v)) = E21_0 (K21_0 n) v := by kernel_rfl
set_option maxRecDepth 100000 in
theorem b21_0_2 (n : Nat) (v : (List (Int × Int)) × Int) : evCut Try.prog E (oracle k21_0) false 21 Try.f21.ntmps (fun x => mem x [2]) (L21_0 n) (finF Try.prog E Try.f21.results.toList [[]] w21_0.alts) 4000 (todoAt (Try.f21.body.getD .skip) 2) (cutSt s21_0_2 (c21_0_2.enc v)) = B21_0_2 (K21_0 n) v := by kernel_rfl
theorem ok21_0 : FnOk Try.prog E 21 v21_0.enc F21_0 w21_0.enc :=
  fn_known (fn := Try.f21) (c := (Try.f21.body.getD .skip)) Try.func21 (by kernel_rfl) rfl envOk (oracle_ok k21_0) mixed v21_0 F21_0 w21_0 [] [[]] (by kernel_rfl) [2] 4000 L21_0 (by kernel_rfl)
    (List.forall_mem_cons.2 ⟨⟨_, [], s21_0_2, c21_0_2.dec, c21_0_2.enc, fun n => (K21_0 n), c21_0_2.ok, fun _ _ => rfl, fun _ => rfl, by kernel_rfl, fun n v _ h => (b21_0_2 n v).trans h⟩, fun _ h => (nomatch h)⟩) (fun v _ h => ⟨fuel21_0 v, (e21_0 _ v).trans h⟩) (fun _ => by kernel_rfl) (fun _ => by kernel_rfl) (fun _ _ => by kernel_rfl)
/- chicane/chicanelaw52.ProfileLimits -/
abbrev A6_0 : Type := (List (Int × Int)) × Int × Int × Int × Int
abbrev R6_0 : Type := Bool
def v6_0 : Pk G ((List (Int × Int)) × Int × Int × Int × Int) := (Pk.fst (pk (Sh.cons (Sh.ros 24) (Sh.fst (Sh.cons (Sh.agg (Sh.cons (Sh.int .i64) (Sh.cons (Sh.int .i64) (Sh.cons (Sh.int .i64) (Sh.fst (Sh.cons (Sh.int .i64) Sh.nil)))))) Sh.nil))) Sh.hnil))
def w6_0 : Wk G Bool := (Wk.one [.keep] (Pk.fst (pk (Sh.fst (Sh.cons Sh.bool Sh.nil)) Sh.hnil)))
def c6_0_9 : Pk G (((List (Int × Int)) × Int × Int) × List Int × Bool × Int × Int × Int × Int) := (pk (Sh.cons (Sh.ros 24) (Sh.snd (Sh.cons (Sh.ptr 0 0) (Sh.snd (Sh.cons (Sh.ptr 1 0) (Sh.snd (Sh.cons (Sh.osl 2) (Sh.cons (Sh.int .i64) (Sh.fst (Sh.cons (Sh.int .i64) Sh.nil)))))))))) (Sh.hrow 2 22 (Sh.hfix 1 29 (Sh.fst (Sh.cons Sh.bool Sh.nil)) (Sh.fst (Sh.hfix 0 40 (Sh.cons (Sh.int .i64) (Sh.cons (Sh.int .i64) (Sh.cons (Sh.int .i64) (Sh.fst (Sh.cons (Sh.int .i64) Sh.nil))))) Sh.hnil)))))
def B6_0_9 (K : ((((List (Int × Int)) × Int × Int) × List Int × Bool × Int × Int × Int × Int) → Option Bool)) (v : ((List (Int × Int)) × Int × Int) × List Int × Bool × Int × Int × Int × Int) : Option Bool :=
  bif (decide (v.1.2.2 < v.1.2.1)) then
    let x2629 : Int := (IntKind.wrap .i64 (v.1.2.2 + v.1.2.1))
    let x2630 : Int := (IntKind.wrap .i64 (x2629 - (1 : Int)))
    (chk (v.1.2.1 != 0)).bind fun _ =>
    let x2631 : Int := (Int.tmod x2630 v.1.2.1)
    (rdx v.1.1 x2631).bind fun (x2632 : Int × Int) =>
    (rdx v.1.1 v.1.2.2).bind fun (x2633 : Int × Int) =>
    let x2634 : Int := (IntKind.wrap .i64 (v.1.2.2 + (1 : Int)))
    (chk (v.1.2.1 != 0)).bind fun _ =>
    let x2635 : Int := (Int.tmod x2634 v.1.2.1)
    (rdx v.1.1 x2635).bind fun (x2636 : Int × Int) =>
    (F8_0 ((x2632, (x2633, x2636)), v.2.2.1)).bind fun r2637 =>
    (F10_0 ((r2637.1, (v.2.2.2.1, v.2.2.2.2.2.2)), r2637.2)).bind fun r2638 =>
    (idx v.1.2.2 (v.2.1).length).bind fun (x2639 : Nat) =>
    ((v.2.1)[x2639]?).bind fun (x2640 : Int) =>
    bif (decide (x2640 > r2638.1)) then
      some (false)
    else
      (idx v.1.2.2 (v.2.1).length).bind fun (x2641 : Nat) =>
      ((v.2.1)[x2641]?).bind fun (x2642 : Int) =>
      bif (decide (x2642 < (0 : Int))) then
        some (false)
      else
        (idx v.1.2.2 (v.2.1).length).bind fun (x2643 : Nat) =>
        ((v.2.1)[x2643]?).bind fun (x2644 : Int) =>
        bif (decide (x2644 > v.2.2.2.2.2.2)) then
          some (false)
        else
          let x2645 : Int := (IntKind.wrap .i64 (v.1.2.2 + (1 : Int)))
          K ((v.1.1, (v.1.2.1, x2645)), (v.2.1, (r2638.2, v.2.2.2)))
  else
    (F12_0 ()).bind fun r2646 =>
    some (r2646)

def E6_0 (K : ((((List (Int × Int)) × Int × Int) × List Int × Bool × Int × Int × Int × Int) → Option Bool)) (v : (List (Int × Int)) × Int × Int × Int × Int) : Option Bool :=
  bif (decide (((v.1).length : Int) > (100 : Int))) then
    (F12_0 ()).bind fun r2623 =>
    some (r2623)
  else
    (F21_0 v.1).bind fun r2624 =>
    bif (!r2624) then
      (F12_0 ()).bind fun r2625 =>
      some (r2625)
    else
      (F14_0 v.2).bind fun r2626 =>
      bif (r2626 != (0 : Int)) then
        (F12_0 ()).bind fun r2627 =>
        some (r2627)
      else
        (F13_0 (v, false)).bind fun r2628 =>
        bif (((r2628.1).length : Int) != ((v.1).length : Int)) then
          some (false)
        else
          K ((v.1, (((v.1).length : Int), (0 : Int))), (r2628.1, (r2628.2, v.2)))

def K6_0 : Nat → ((((List (Int × Int)) × Int × Int) × List Int × Bool × Int × Int × Int × Int) → Option Bool)
  | 0 => (fun _ => none)
  | n + 1 => (B6_0_9 (K6_0 n))
def fuel6_0 (v : (List (Int × Int)) × Int × Int × Int × Int) : Nat := 1000
def F6_0 (v : (List (Int × Int)) × Int × Int × Int × Int) : Option Bool := E6_0 (K6_0 (fuel6_0 v)) v
noncomputable def k6_0 : List (Known Try.prog E) := [Known.of envOk [] [] v12_0 F12_0 w12_0 ok12_0, Known.of envOk [7] [(.ros 24)] v21_0 F21_0 w21_0 ok21_0, Known.of envOk [9] [(.agg [.keep, .keep, .keep, .keep])] v14_0 F14_0 w14_0 ok14_0, Known.of envOk [5, 7, 9] [(.ptr 0 0 29 [.keep]), (.ros 24), (.agg [.keep, .keep, .keep, .keep])] v13_0 F13_0 w13_0 ok13_0, Known.of envOk [5, 9, 9, 9] [(.ptr 0 0 29 [.keep]), (.agg [.keep, .keep]), (.agg [.keep, .keep]), (.agg [.keep, .keep])] v8_0 F8_0 w8_0 ok8_0, Known.of envOk [5, 1, 1, 1] [(.ptr 0 0 29 [.keep]), .keep, .keep, .keep] v10_0 F10_0 w10_0 ok10_0]
def s6_0_9 : List (Nat × Pat) := [(0, (.ros 24)), (3, (.ptr 0 0 40 [.keep, .keep, .keep, .keep])), (5, (.ptr 1 0 29 [.keep])), (6, (.own 2 22)), (7, .keep), (8, .keep)]
noncomputable def L6_0 (n id : Nat) (st : St G) : Option Bool := match Nat.beq id 9 with | true => cutK Try.prog s6_0_9 [] c6_0_9.dec (K6_0 n) st | false => none
set_option maxRecDepth 100000 in
theorem e6_0 (n : Nat) (v : (List (Int × Int)) × Int × Int × Int × Int) : ev Try.prog E (oracle k6_0) Try.f6.ntmps (fun x => mem x [9]) (L6_0 n) (finF Try.prog E Try.f6.results.toList [[]] w6_0.alts) 4000 [.code (Try.f6.body.getD .skip)] (argSt (v6_0.enc v)) = E6_0 (K6_0 n) v := by kernel_rfl
set_option maxRecDepth 100000 in
theorem b6_0_9 (n : Nat) (v : ((List (Int × Int)) × Int × Int) × List Int × Bool × Int × Int × Int × Int) : evCut Try.prog E (oracle k6_0) false 6 Try.f6.ntmps (fun x => mem x [9]) (L6_0 n) (finF Try.prog E Try.f6.results.toList [[]] w6_0.alts) 4000 (todoAt (Try.f6.body.getD .skip) 9) (cutSt s6_0_9 (c6_0_9.enc v)) = B6_0_9 (K6_0 n) v := by kernel_rfl
theorem ok6_0 : FnOk Try.prog E 6 v6_0.enc F6_0 w6_0.enc :=
  fn_known (fn := Try.f6) (c := (Try.f6.body.getD .skip)) Try.func6 (by kernel_rfl) rfl envOk (oracle_ok k6_0) mixed v6_0 F6_0 w6_0 [] [[]] (by kernel_rfl) [9] 4000 L6_0 (by kernel_rfl)
    (List.forall_mem_cons.2 ⟨⟨_, [], s6_0_9, c6_0_9.dec, c6_0_9.enc, fun n => (K6_0 n), c6_0_9.ok, fun _ _ => rfl, fun _ => rfl, by kernel_rfl, fun n v _ h => (b6_0_9 n v).trans h⟩, fun _ h => (nomatch h)⟩) (fun v _ h => ⟨fuel6_0 v, (e6_0 _ v).trans h⟩) (fun _ => by kernel_rfl) (fun _ => by kernel_rfl) (fun _ _ => by kernel_rfl)
/- chicane/chicanelaw52.ProfileSteps -/
abbrev A7_0 : Type := (List (Int × Int)) × Int × Int × Int × Int
abbrev R7_0 : Type := Bool
def v7_0 : Pk G ((List (Int × Int)) × Int × Int × Int × Int) := (Pk.fst (pk (Sh.cons (Sh.ros 24) (Sh.fst (Sh.cons (Sh.agg (Sh.cons (Sh.int .i64) (Sh.cons (Sh.int .i64) (Sh.cons (Sh.int .i64) (Sh.fst (Sh.cons (Sh.int .i64) Sh.nil)))))) Sh.nil))) Sh.hnil))
def w7_0 : Wk G Bool := (Wk.one [.keep] (Pk.fst (pk (Sh.fst (Sh.cons Sh.bool Sh.nil)) Sh.hnil)))
def c7_0_9 : Pk G (((List (Int × Int)) × Int × Int) × List Int × Bool × Int × Int × Int × Int) := (pk (Sh.cons (Sh.ros 24) (Sh.snd (Sh.cons (Sh.ptr 0 0) (Sh.snd (Sh.cons (Sh.ptr 1 0) (Sh.snd (Sh.cons (Sh.osl 2) (Sh.cons (Sh.int .i64) (Sh.fst (Sh.cons (Sh.int .i64) Sh.nil)))))))))) (Sh.hrow 2 22 (Sh.hfix 1 29 (Sh.fst (Sh.cons Sh.bool Sh.nil)) (Sh.fst (Sh.hfix 0 40 (Sh.cons (Sh.int .i64) (Sh.cons (Sh.int .i64) (Sh.cons (Sh.int .i64) (Sh.fst (Sh.cons (Sh.int .i64) Sh.nil))))) Sh.hnil)))))
def B7_0_9 (K : ((((List (Int × Int)) × Int × Int) × List Int × Bool × Int × Int × Int × Int) → Option Bool)) (v : ((List (Int × Int)) × Int × Int) × List Int × Bool × Int × Int × Int × Int) : Option Bool :=
  bif (decide (v.1.2.2 < v.1.2.1)) then
    let x2737 : Int := (IntKind.wrap .i64 (v.1.2.2 + (1 : Int)))
    (chk (v.1.2.1 != 0)).bind fun _ =>
    let x2738 : Int := (Int.tmod x2737 v.1.2.1)
    (rdx v.1.1 x2738).bind fun (x2739 : Int × Int) =>
    (rdx v.1.1 v.1.2.2).bind fun (x2740 : Int × Int) =>
    (F23_0 ((x2739.1, x2740.1), v.2.2.1)).bind fun r2741 =>
    (rdx v.1.1 x2738).bind fun (x2742 : Int × Int) =>
    (rdx v.1.1 v.1.2.2).bind fun (x2743 : Int × Int) =>
    (F23_0 ((x2742.2, x2743.2), r2741.2)).bind fun r2744 =>
    (F22_0 ((r2741.1, r2744.1), r2744.2)).bind fun r2745 =>
    (idx v.1.2.2 (v.2.1).length).bind fun (x2746 : Nat) =>
    ((v.2.1)[x2746]?).bind fun (x2747 : Int) =>
    (idx v.1.2.2 (v.2.1).length).bind fun (x2748 : Nat) =>
    ((v.2.1)[x2748]?).bind fun (x2749 : Int) =>
    (F26_0 ((x2747, x2749), r2745.2)).bind fun r2750 =>
    let x2751 : Int := (IntKind.wrap .i64 ((2 : Int) * v.2.2.2.2.1))
    (F26_0 ((x2751, r2745.1), r2750.2)).bind fun r2752 =>
    (F25_0 ((r2750.1, r2752.1), r2752.2)).bind fun r2753 =>
    (F24_0 r2753.1).bind fun r2754 =>
    (idx x2738 (v.2.1).length).bind fun (x2755 : Nat) =>
    ((v.2.1)[x2755]?).bind fun (x2756 : Int) =>
    (idx x2738 (v.2.1).length).bind fun (x2757 : Nat) =>
    ((v.2.1)[x2757]?).bind fun (x2758 : Int) =>
    (F26_0 ((x2756, x2758), r2753.2)).bind fun r2759 =>
    let x2760 : Int := (IntKind.wrap .i64 ((2 : Int) * v.2.2.2.2.2.1))
    (F26_0 ((x2760, r2745.1), r2759.2)).bind fun r2761 =>
    (F25_0 ((r2759.1, r2761.1), r2761.2)).bind fun r2762 =>
    (F24_0 r2762.1).bind fun r2763 =>
    (idx x2738 (v.2.1).length).bind fun (x2764 : Nat) =>
    ((v.2.1)[x2764]?).bind fun (x2765 : Int) =>
    let x2766 : Int := (IntKind.wrap .i64 (r2754 + (262144 : Int)))
    bif (decide (x2765 > x2766)) then
      some (false)
    else
      (idx v.1.2.2 (v.2.1).length).bind fun (x2767 : Nat) =>
      ((v.2.1)[x2767]?).bind fun (x2768 : Int) =>
      let x2769 : Int := (IntKind.wrap .i64 (r2763 + (262144 : Int)))
      bif (decide (x2768 > x2769)) then
        some (false)
      else
        let x2770 : Int := (IntKind.wrap .i64 (v.1.2.2 + (1 : Int)))
        K ((v.1.1, (v.1.2.1, x2770)), (v.2.1, (r2762.2, v.2.2.2)))
  else
    (F12_0 ()).bind fun r2771 =>
    some (r2771)

def E7_0 (K : ((((List (Int × Int)) × Int × Int) × List Int × Bool × Int × Int × Int × Int) → Option Bool)) (v : (List (Int × Int)) × Int × Int × Int × Int) : Option Bool :=
  bif (decide (((v.1).length : Int) > (100 : Int))) then
    (F12_0 ()).bind fun r2731 =>
    some (r2731)
  else
    (F21_0 v.1).bind fun r2732 =>
    bif (!r2732) then
      (F12_0 ()).bind fun r2733 =>
      some (r2733)
    else
      (F14_0 v.2).bind fun r2734 =>
      bif (r2734 != (0 : Int)) then
        (F12_0 ()).bind fun r2735 =>
        some (r2735)
      else
        (F13_0 (v, false)).bind fun r2736 =>
        bif (((r2736.1).length : Int) != ((v.1).length : Int)) then
          some (false)
        else
          K ((v.1, (((v.1).length : Int), (0 : Int))), (r2736.1, (r2736.2, v.2)))

def K7_0 : Nat → ((((List (Int × Int)) × Int × Int) × List Int × Bool × Int × Int × Int × Int) → Option Bool)
  | 0 => (fun _ => none)
  | n + 1 => (B7_0_9 (K7_0 n))
def fuel7_0 (v : (List (Int × Int)) × Int × Int × Int × Int) : Nat := 1000
def F7_0 (v : (List (Int × Int)) × Int × Int × Int × Int) : Option Bool := E7_0 (K7_0 (fuel7_0 v)) v
noncomputable def k7_0 : List (Known Try.prog E) := [Known.of envOk [] [] v12_0 F12_0 w12_0 ok12_0, Known.of envOk [7] [(.ros 24)] v21_0 F21_0 w21_0 ok21_0, Known.of envOk [9] [(.agg [.keep, .keep, .keep, .keep])] v14_0 F14_0 w14_0 ok14_0, Known.of envOk [5, 7, 9] [(.ptr 0 0 29 [.keep]), (.ros 24), (.agg [.keep, .keep, .keep, .keep])] v13_0 F13_0 w13_0 ok13_0, Known.of envOk [5, 1, 1] [(.ptr 0 0 29 [.keep]), .keep, .keep] v23_0 F23_0 w23_0 ok23_0, Known.of envOk [5, 1, 1] [(.ptr 0 0 29 [.keep]), .keep, .keep] v22_0 F22_0 w22_0 ok22_0, Known.of envOk [5, 1, 1] [(.ptr 0 0 29 [.keep]), .keep, .keep] v26_0 F26_0 w26_0 ok26_0, Known.of envOk [5, 1, 1] [(.ptr 0 0 29 [.keep]), .keep, .keep] v25_0 F25_0 w25_0 ok25_0, Known.of envOk [1] [.keep] v24_0 F24_0 w24_0 ok24_0]
def s7_0_9 : List (Nat × Pat) := [(0, (.ros 24)), (3, (.ptr 0 0 40 [.keep, .keep, .keep, .keep])), (5, (.ptr 1 0 29 [.keep])), (6, (.own 2 22)), (7, .keep), (8, .keep)]
noncomputable def L7_0 (n id : Nat) (st : St G) : Option Bool := match Nat.beq id 9 with | true => cutK Try.prog s7_0_9 [] c7_0_9.dec (K7_0 n) st | false => none
set_option maxRecDepth 100000 in
theorem e7_0 (n : Nat) (v : (List (Int × Int)) × Int × Int × Int × Int) : ev Try.prog E (oracle k7_0) Try.f7.ntmps (fun x => mem x [9]) (L7_0 n) (finF Try.prog E Try.f7.results.toList [[]] w7_0.alts) 4000 [.code (Try.f7.body.getD .skip)] (argSt (v7_0.enc v)) = E7_0 (K7_0 n) v := by kernel_rfl
set_option maxRecDepth 100000 in
theorem b7_0_9 (n : Nat) (v : ((List (Int × Int)) × Int × Int) × List Int × Bool × Int × Int × Int × Int) : evCut Try.prog E (oracle k7_0) false 7 Try.f7.ntmps (fun x => mem x [9]) (L7_0 n) (finF Try.prog E Try.f7.results.toList [[]] w7_0.alts) 4000 (todoAt (Try.f7.body.getD .skip) 9) (cutSt s7_0_9 (c7_0_9.enc v)) = B7_0_9 (K7_0 n) v := by kernel_rfl
theorem ok7_0 : FnOk Try.prog E 7 v7_0.enc F7_0 w7_0.enc :=
  fn_known (fn := Try.f7) (c := (Try.f7.body.getD .skip)) Try.func7 (by kernel_rfl) rfl envOk (oracle_ok k7_0) mixed v7_0 F7_0 w7_0 [] [[]] (by kernel_rfl) [9] 4000 L7_0 (by kernel_rfl)
    (List.forall_mem_cons.2 ⟨⟨_, [], s7_0_9, c7_0_9.dec, c7_0_9.enc, fun n => (K7_0 n), c7_0_9.ok, fun _ _ => rfl, fun _ => rfl, by kernel_rfl, fun n v _ h => (b7_0_9 n v).trans h⟩, fun _ h => (nomatch h)⟩) (fun v _ h => ⟨fuel7_0 v, (e7_0 _ v).trans h⟩) (fun _ => by kernel_rfl) (fun _ => by kernel_rfl) (fun _ _ => by kernel_rfl)
def Dom3_0 (v : (Int × Int × Int × Int × Int × Int) × Int × Int × Int) : Prop := ((Lit.int .i64 v.1.1).wf = true ∧ (Lit.int .i64 v.1.2.1).wf = true ∧ (Lit.int .i64 v.1.2.2.1).wf = true ∧ (Lit.int .i64 v.1.2.2.2.1).wf = true ∧ (Lit.int .i64 v.1.2.2.2.2.1).wf = true ∧ (Lit.int .i64 v.1.2.2.2.2.2).wf = true) ∧ ((Lit.int .i64 v.2.1).wf = true ∧ (Lit.int .i64 v.2.2.1).wf = true ∧ (Lit.int .i64 v.2.2.2).wf = true)
def Dom4_0 (v : (List (Int × Int)) × Int × Int × Int × Int) : Prop := (((v.1).length ≤ maxLen ∧ ∀ x ∈ v.1, (Lit.int .i64 x.1).wf = true ∧ (Lit.int .i64 x.2).wf = true)) ∧ ((Lit.int .i64 v.2.1).wf = true ∧ (Lit.int .i64 v.2.2.1).wf = true ∧ (Lit.int .i64 v.2.2.2.1).wf = true ∧ (Lit.int .i64 v.2.2.2.2).wf = true)
def Dom5_0 (v : (List (Int × Int)) × List Int) : Prop := (((v.1).length ≤ maxLen ∧ ∀ x ∈ v.1, (Lit.int .i64 x.1).wf = true ∧ (Lit.int .i64 x.2).wf = true)) ∧ (((v.2).length ≤ maxLen ∧ ∀ x ∈ v.2, (Lit.int .i64 x).wf = true))
def Dom6_0 (v : (List (Int × Int)) × Int × Int × Int × Int) : Prop := (((v.1).length ≤ maxLen ∧ ∀ x ∈ v.1, (Lit.int .i64 x.1).wf = true ∧ (Lit.int .i64 x.2).wf = true)) ∧ ((Lit.int .i64 v.2.1).wf = true ∧ (Lit.int .i64 v.2.2.1).wf = true ∧ (Lit.int .i64 v.2.2.2.1).wf = true ∧ (Lit.int .i64 v.2.2.2.2).wf = true)
def Dom7_0 (v : (List (Int × Int)) × Int × Int × Int × Int) : Prop := (((v.1).length ≤ maxLen ∧ ∀ x ∈ v.1, (Lit.int .i64 x.1).wf = true ∧ (Lit.int .i64 x.2).wf = true)) ∧ ((Lit.int .i64 v.2.1).wf = true ∧ (Lit.int .i64 v.2.2.1).wf = true ∧ (Lit.int .i64 v.2.2.2.1).wf = true ∧ (Lit.int .i64 v.2.2.2.2).wf = true)
end Go.Proofs.Ytbmbnopgekbppaa.Ev
