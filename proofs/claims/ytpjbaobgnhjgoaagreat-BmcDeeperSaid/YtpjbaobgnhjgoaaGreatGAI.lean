/- Parts of a proof. -/
import Derived.Test.YtpjbaobgnhjgoaaGreatGAH
set_option linter.unusedVariables false
set_option linter.unusedSimpArgs false
set_option maxHeartbeats 16000000
set_option maxRecDepth 100000
namespace Go.Proofs.YtpjbaobgnhjgoaaGreat
open Go.RowKit
def QI : Prop := ∀ (w : World) (L : aH) (S : Sv), aK w L S → S.Ok 0 → -1152921504606846976 ≤ S.many → S.many ≤ 1152921504606846976 →
 Calls Tryz.prog 108 #[.pointer (some ⟨L.a, 0, none⟩)] w fun e w' => ∃ S', Sv.EU S S' ∧ me (.tuple #[]) S' L w e w'
def B6 (Q : Sv → Int → Prop) (L : aH) (w : World) (e : Ending) (w' : World) : Prop := ∃ (S' : Sv) (r : Int), Q S' r ∧ S'.Ok 0 ∧ me (.int .i64 r) S' L w e w'
theorem pf (red : Bool) (EV : red = true → QI) (w : World) (L : aH) (S : Sv) (h : aK w L S) (ok : S.Ok 0) (A : Option Addr) (c : Nat) (us : List Int) (vN : B8 w L A us) (zq : ∀ x ∈ us, -(S.vars : Int) ≤ x ∧ x ≤ S.vars) (vo : us.length ≤ 1099511627776) (budget : Int) (Q : Sv → Int → Prop) (D C : Nat) (hW : Sv.eB red budget us Q D C 64 0 S) :
  Calls Tryz.prog 76 #[.pointer (some ⟨L.a, 0, none⟩), .int .i64 budget, .slice A us.length c] w (B6 Q L w) := by
 have HH := aa h
 have kQ := aa ok
 have Wi := aa vN
 have Oa := aa zq
 have ZE := aa EV
 obtain ⟨C0, rfl⟩ : ∃ C0, C = C0 + 1 := ⟨C - 1, by
  rcases C with _ | C
  ·exact absurd hW (by simp [Sv.eB])
  ·omega⟩
 have Sb : Hid (Sv.hJ red budget us Q (Sv.eB red budget us Q D C0) D 64 0 S) := hW
 clear hW h ok vN zq EV
 go_enter Tryz.func76, Tryz.ntmps76
 go_wp2_with fail
 go_loopg [7, 8] (C0 * (D + 1) + D) (fun g x7 x8 wr => ∃ (c0 d next n : Nat) (S1 : Sv) (L1 : aH), g = c0 * (D + 1) + d ∧ x7 = .int .i64 next ∧ x8 = .int .i64 n ∧ Hid (Sv.hJ red budget us Q (Sv.eB red budget us Q D c0) d next n S1) ∧ Hid (S1.vars = S.vars) ∧ Hid (S1.Ok 0) ∧ Hid (aK wr L1 S1) ∧ Hid (L.ext L1 w) ∧ Hid (Fr (L.own w) w wr))
 case atStart => exact ⟨C0, D, 64, 0, S, L, rfl, rfl, rfl, Sb.out, rfl, kQ.out, HH.out, aH.bX _ _, Fr.refl _ _⟩
 case round =>
  obtain ⟨c0, d, next, n, S1, L1, hg, rfl, rfl, HW, HV1, j7, H1, dV, dv⟩ := hrel
  obtain ⟨d, rfl⟩ : ∃ d', d = d' + 1 := ⟨d - 1, by
   rcases d with _ | d
   ·exact absurd HW.out (by simp [Sv.hJ])
   ·omega⟩
  have HG := aa hg
  have hw := HW.out
  rw [Sv.hJ] at hw
  obtain ⟨Hu, hn, ah8, hw⟩ := hw
  have KF := aa (yL wr L1 S1 H1.out j7.out)
  rw [dV.out.1] at KF
  have F2 := j7.out.follow
  obtain ⟨SF, hSF⟩ : ∃ SF, S1.follow.1 = SF := ⟨_, rfl⟩
  obtain ⟨oc, hoc⟩ : ∃ oc, S1.follow.2 = oc := ⟨_, rfl⟩
  rw [hSF, hoc] at hw F2 KF
  obtain ⟨Ym, yD, Uh⟩ := F2
  have nY := aa Hu
  have Xw : SF.vars = S.vars := (congrArg (fun x => x.2.1) yD).trans HV1.out
  have iX : SF.core = [] := (congrArg (fun x => x.2.2.2.2.1) yD).trans Hu.core
  have Az : SF.used = S1.used := congrArg (fun x => x.2.2.2.2.2.1) yD
  have Bl : SF.bump = S1.bump := congrArg (fun x => x.2.2.2.2.2.2.1) yD
  have j3 : SF.many = S1.many := congrArg (fun x => x.2.2.2.2.2.2.2.1) yD
  have oE : SF.bU = S1.bU := congrArg (fun x => x.2.2.2.2.2.2.2.2.1) yD
  have LH : SF.T.levels = S1.T.levels := congrArg (fun x => x.2.2.2.2.2.2.2.2.2.2.2.1) yD
  have TZ : SF.list.length = S1.list.length := congrArg (fun x => x.2.2.2.2.2.2.2.2.2.2.2.2) yD
  have Ve := aa Ym
  have Sc := aa Xw
  have HCF := aa iX
  have agr := aa TZ
  have Sn : Hid (SF.T.levels.length ≤ 4398046511104) := by show _ ≤ _; rw [LH]; exact Hu.cO
  have HIF : Hid (SF.list.length < 2199023255552) := by show _ < _; rw [TZ]; exact Hu.list
  have adA := Hu.used
  have XA := Hu.bump
  have Tz := Hu.Ky
  have Ty := Hu.many1
  have Tw := Hu.lim
  rw [← Az] at adA
  rw [← Bl] at XA
  rw [← j3] at Tz Ty
  rw [← oE] at Tw
  clear hg HW hSF hoc Ym yD Xw iX Az Bl j3 oE LH TZ Hu
  go_wp2_with fail
  refine KF.out.mono ?_
  clear KF
  rintro e w2 ⟨rfl, L2, h2, iW, cd⟩
  have H2 := aa h2
  have cL := aa (aH.aM dV.out iW dv.out.size)
  have cJ := aa (aH.aI dV.out dv.out cd)
  clear h2 iW cd H1 dV dv
  cases oc with
  | some cf =>
   have hcf := Uh cf rfl
   have Qg : cf < SF.list.length := by
    rw [agr.out]
    exact hcf
   have HFI : Hid (uD (some cf) = (cf : Int)) := rfl
   rw [HFI.out]
   have Jz : (0 : Int) ≤ (cf : Int) := by omega
   have hwn : IntKind.i64.wrap ((n : Int) + 1) = (n : Int) + 1 := IntWalk.i64_in _ (by omega)
   have S9 : IntKind.i64.wrap ((SF.used : Int) + 1) = (SF.used : Int) + 1 := IntWalk.i64_in _ (by omega)
   obtain ⟨-, -, -, -, -, -, -, -, -, c9, -⟩ := H2.out.cells
   rw [cL.out.1] at c9
   have f9 := H2.out.obj.frozen 9
   rw [cL.out.1] at f9
   obtain ⟨g3, f3⟩ := H2.out.nE 9 (.int .i64 ((SF.used : Int) + 1)) SF.cw (by simp [m7, Sv.cw]) ⟨rfl, rfl, rfl, rfl, rfl, rfl, rfl⟩
   rw [cL.out.1] at g3 f3
   have HQ := aa hw
   clear hw Uh
   go_upto_region 7 with fail
   obtain ⟨w3, kW⟩ : ∃ w3, w2.setCell ⟨L.a, 9, none⟩ (.int .i64 ((SF.used : Int) + 1)) = w3 := ⟨_, rfl⟩
   rw [kW] at g3 f3 ⊢
   have H3 := aa g3
   have cR := aa (aH.aI cL.out cJ.out f3)
   clear kW g3 f3 c9 f9 S9
   have hq := HQ.out
   cases si : SF.cw.conflict cf with
   | none => rw [si] at hq; exact absurd hq (by simp [Sv.MU])
   | some q =>
    obtain ⟨S4, b⟩ := q
    rw [si] at hq
    have KC := aa (uR w3 L2 SF.cw H3.out 0 Ve.out.cw cf Qg HIF.out (by show SF.used + 1 ≤ _; omega) XA (by show SF.many < _; omega) (by show _ < SF.many; omega) (by have := Sn.out; show SF.T.levels.length ≤ _; omega) S4 b si)
    rw [cL.out.1] at KC
    have ok4 := Ve.out.cw.conflict HIF.out si
    have HO4 := aa ok4.1
    have HV4 : Hid (S4.vars = S.vars) := ok4.2.trans Sc.out
    clear si ok4
    go_wp2_with fail
    refine KC.out.mono ?_
    clear KC
    rintro e w4 ⟨rfl, L4, h4, RT, eF⟩
    have H4 := aa h4
    have tf := aa (aH.aM cL.out RT cR.out.size)
    have gS := aa (aH.aI cL.out cR.out eF)
    clear h4 RT eF
    cases b with
    | false =>
     have FF : Hid (B6 Q L w (.returned (.int .i64 2)) w4) := ⟨S4, 2, hq, HO4.out, rfl, L4, H4.out, tf.out, gS.out⟩
     clear hq
     go_wp2_with fail
     go_ret
     exact FF.out
    | true =>
     replace hq : if budget < ((n + 1 : Nat) : Int) then Q S4 0 else Sv.eB red budget us Q D c0 next (n + 1) S4 := hq
     by_cases Me : budget < ((n + 1 : Nat) : Int)
     ·rw [if_pos Me] at hq
      have aex : budget < (n : Int) + 1 := by omega
      have FF : Hid (B6 Q L w (.returned (.int .i64 0)) w4) := ⟨S4, 0, hq, HO4.out, rfl, L4, H4.out, tf.out, gS.out⟩
      clear hq Me
      go_wp2_with fail
      go_ret
      exact FF.out
     ·rw [if_neg Me] at hq
      have aex : (n : Int) + 1 ≤ budget := by omega
      have wu := aa hq
      obtain ⟨c1, rfl⟩ : ∃ c1, c0 = c1 + 1 := ⟨c0 - 1, by
       rcases c0 with _ | c0
       ·exact absurd hq (by simp [Sv.eB])
       ·omega⟩
      have JS : Hid (Sv.hJ red budget us Q (Sv.eB red budget us Q D c1) D next (n + 1) S4) := wu.out
      clear hq Me
      go_wp2_with fail
      go_roundg (c1 * (D + 1) + D)
      case measure => have := HG.out; rw [Nat.succ_mul] at this; omega
      case rel => exact ⟨c1, D, next, n + 1, S4, L4, rfl, rfl, by go_num, JS.out, HV4.out, HO4.out, H4.out, tf.out, gS.out⟩
  | none =>
   have HFI : Hid (uD none = -1) := rfl
   rw [HFI.out]
   have HQ := aa hw
   clear hw Uh
   by_cases yx : next ≤ n
   ·have XH : SF.cH n next = SF.back 0 := by unfold Sv.cH; rw [if_pos yx]
    have rM : Hid ((if next ≤ n then n + 64 else next) = n + 64) := if_pos yx
    have KB := aa (lI w2 L2 SF H2.out 0 Ve.out 0 (by omega))
    rw [cL.out.1, ← XH] at KB
    have hwn : IntKind.i64.wrap ((n : Int) + 64) = (n : Int) + 64 := IntWalk.i64_in _ (by omega)
    have qd := aa (Sv.qT Ve.out n next)
    have QO := aa (Ve.out.cH n next)
    clear XH
    go_wp2_with fail
    refine KB.out.mono ?_
    clear KB
    rintro e w3 ⟨rfl, L3, h3, vu, cY⟩
    have H3 := aa h3
    have gF := aa (aH.aM cL.out vu cJ.out.size)
    have cR := aa (aH.aI cL.out cJ.out cY)
    clear h3 vu cY yx
    obtain ⟨SR, Ex⟩ : ∃ SR, SF.cH n next = SR := ⟨_, rfl⟩
    rw [Ex] at qd QO H3
    have hq := HQ.out
    rw [Ex] at hq
    simp only [rM.out] at hq
    unfold Sv.zR at hq
    obtain ⟨-, -, -, -, -, -, -, -, -, -, -, zz, zy, -⟩ := H3.out.cells
    rw [gF.out.1] at zz zy
    obtain ⟨kE, hrl, fm, XG, Ll, AL⟩ := qd.out
    have AJ : -1152921504606846976 ≤ SR.many ∧ SR.many ≤ 1152921504606846976 := by rw [XG]; exact ⟨Tz, Ty⟩
    have Lh : SR.bU ≤ 2199023255552 := by rw [Ll]; exact Tw
    have tc : Hid (SR.vars = S.vars) := kE.trans Sc.out
    have Z0 : Hid (SR.core = []) := fm.trans HCF.out
    have oM : Hid (SR.T.levels.length ≤ 4398046511104) := aE AL Sn.out
    clear Ex kE hrl fm XG Ll AL qd HQ
    by_cases Hq : (SR.bU : Int) < SR.many
    ·rw [if_pos Hq] at hq
     have AN : red = true := by
      cases red with
      | true => rfl
      | false => simp at hq
     rw [if_pos AN] at hq
     have Dx : decide ((SR.bU : Int) < SR.many) = true := decide_eq_true Hq
     have HQ := aa hq
     have Lg := AJ
     clear hq Hq AJ
     go_wp2_with fail
     go_region
     obtain ⟨w4, Cq⟩ : ∃ w4, World.drew w3 = w4 := ⟨_, rfl⟩
     have ND : Hid (Fr [] w3 w4) := by rw [← Cq]; exact (Fr.refl [] _).drew
     rw [Cq]
     have UR := aa (ZE.out AN w4 L3 SR (H3.out.keep ND.out) QO.out Lg.1 Lg.2)
     rw [gF.out.1] at UR
     have NE : Hid (Fr (L.own w) w w4) := cR.out.ag (ND.out.mono (fun k hk => by cases hk))
     clear Cq zz zy Dx
     go_wp2_with fail
     refine UR.out.mono ?_
     clear UR
     rintro e w5 ⟨S5, AM, rfl, L5, h5, sP, dK⟩
     have H5 := aa h5
     have mf := aa (aH.aM gF.out sP NE.out.size)
     have qj := aa (aH.aI gF.out NE.out dK)
     have xz := aa AM
     obtain ⟨DD, hD1, hD2, hD3, rfl⟩ := AM
     have Iw := Sv.jD DD SR
     have Jf := aa (Sv.Ok.MG DD SR QO.out)
     obtain ⟨S5, vU⟩ : ∃ S5, DD.foldl Sv.cu SR = S5 := ⟨_, rfl⟩
     rw [vU] at Iw Jf H5 xz
     have HV5 : Hid (S5.vars = S.vars) := Iw.2.1.trans tc.out
     have Su : Hid (S5.core = []) := Iw.2.2.2.1.trans Z0.out
     have Vm : Hid (S5.T.levels.length ≤ 4398046511104) := by show _ ≤ _; rw [Iw.1]; exact oM.out
     have PW : S5.bU ≤ 2199023255552 := by rw [Iw.2.2.2.2.1]; exact Lh
     clear h5 sP dK hD1 hD2 hD3 Iw vU
     obtain ⟨-, -, -, -, -, -, -, -, -, -, -, -, zy, -⟩ := H5.out.cells
     rw [mf.out.1] at zy
     have f12 := H5.out.obj.frozen 12
     rw [mf.out.1] at f12
     obtain ⟨lm, JB⟩ : ∃ lm, S5.bU = lm := ⟨_, rfl⟩
     rw [JB] at zy PW
     have HLM := aa JB
     have O4 : IntKind.i64.wrap (((lm / 16 : Nat) : Int) + 1) = ((lm / 16 : Nat) : Int) + 1 := IntWalk.i64_in _ (by omega)
     have O3 : IntKind.i64.wrap ((lm : Int) + (((lm / 16 : Nat) : Int) + 1)) = (lm : Int) + (((lm / 16 : Nat) : Int) + 1) := IntWalk.i64_in _ (by omega)
     have Fh : Hid ((lm : Int) + ((lm : Int) / 16 + 1) = ((lm + (lm / 16 + 1) : Nat) : Int)) := by show _ = _; omega
     obtain ⟨g6, f6⟩ := H5.out.nE 12 (.int .i64 ((lm + (lm / 16 + 1) : Nat) : Int)) S5.fl (by simp [m7, Sv.fl, JB]) ⟨rfl, rfl, rfl, rfl, rfl, rfl, rfl⟩
     rw [mf.out.1] at g6 f6
     have h6 := g6.keep (Fr.refl [] _).drew
     have Z9 := aa h6
     have NG := aa ((aH.aI mf.out qj.out f6).drew)
     clear JB g6 f6 h6
     go_upto_region 16 with fail
     go_region
     rw [Fh.out]
     obtain ⟨w6, xd⟩ : ∃ w6, (w5.setCell ⟨L.a, 12, none⟩ (.int .i64 ((lm + (lm / 16 + 1) : Nat) : Int))).drew = w6 := ⟨_, rfl⟩
     rw [xd] at Z9 NG ⊢
     have H6 := Z9
     have iG := NG
     have n9 := mf
     have te := aa Jf.out.fl
     have E2 : Hid (S5.fl.vars = S.vars) := HV5.out
     have Jm : Hid (S5.fl.core = []) := Su.out
     have Fb : Hid (S5.fl.T.levels.length ≤ 4398046511104) := Vm.out
     have HQ := aa (HQ.out S5 xz.out)
     obtain ⟨S6, vT⟩ : ∃ S6, S5.fl = S6 := ⟨_, rfl⟩
     rw [vT] at HQ H6 te E2 Jm Fb
     clear vT xd zy f12 O4 O3
     have KD := aa (je w6 L5 S6 H6.out 0 te.out A c us (Wi.out.step n9.out iG.out) (fun x hx => by have := Oa.out x hx; rw [E2.out]; exact this) vo Jm.out Fb.out)
     rw [n9.out.1] at KD
     have DY := te.out.aS us
     have vB := aa DY.1
     have E1 : Hid ((S6.aS us).1.vars = S.vars) := DY.2.1.trans E2.out
     have hq := HQ.out
     obtain ⟨DS, Mr⟩ : ∃ DS, S6.aS us = DS := ⟨_, rfl⟩
     rw [Mr] at KD vB E1 hq
     obtain ⟨S7, r⟩ := DS
     simp only at KD vB E1 hq
     clear DY Mr HQ
     go_wp2_with fail
     refine KD.out.mono ?_
     clear KD
     rintro e w7 ⟨rfl, L7, h7, Bg, jl⟩
     have H7 := aa h7
     have zn := aa (aH.aM n9.out Bg iG.out.size)
     have rP := aa (aH.aI n9.out iG.out jl)
     clear h7 Bg jl
     by_cases gU : r = 0
     ·rw [if_pos gU] at hq
      have vv : (r == (0 : Int)) = true := by simp [gU]
      have HQ := aa hq
      clear hq
      go_wp2_with fail
      go_roundg (c0 * (D + 1) + d)
      case measure => have := HG.out; omega
      case rel => exact ⟨c0, d, n + 64, n, S7, L7, rfl, by go_num, rfl, HQ.out, E1.out, vB.out, H7.out, zn.out, rP.out⟩
     ·rw [if_neg gU] at hq
      have vv : (r == (0 : Int)) = false := by simp [gU]
      have FF : Hid (B6 Q L w (.returned (.int .i64 r)) w7) := ⟨S7, r, hq, vB.out, rfl, L7, H7.out, zn.out, rP.out⟩
      clear hq
      go_wp2_with fail
      go_ret
      exact FF.out
    ·rw [if_neg Hq] at hq
     have Dx : decide ((SR.bU : Int) < SR.many) = false := decide_eq_false Hq
     have HQ := aa hq
     clear hq Hq
     go_wp2_with fail
     go_region
     obtain ⟨w6, xd⟩ : ∃ w6, World.drew w3 = w6 := ⟨_, rfl⟩
     have NE : Hid (Fr [] w3 w6) := by rw [← xd]; exact (Fr.refl [] _).drew
     rw [xd]
     have H6 := aa (H3.out.keep NE.out)
     have n9 := gF
     have iG : Hid (Fr (L.own w) w w6) := cR.out.ag (NE.out.mono (fun k hk => by cases hk))
     have te := QO
     have E2 := tc
     have Jm := Z0
     have Fb := oM
     obtain ⟨S6, vT⟩ : ∃ S6, SR = S6 := ⟨_, rfl⟩
     rw [vT] at HQ H6 te E2 Jm Fb
     clear vT xd zz zy Dx
     have KD := aa (je w6 L3 S6 H6.out 0 te.out A c us (Wi.out.step n9.out iG.out) (fun x hx => by have := Oa.out x hx; rw [E2.out]; exact this) vo Jm.out Fb.out)
     rw [n9.out.1] at KD
     have DY := te.out.aS us
     have vB := aa DY.1
     have E1 : Hid ((S6.aS us).1.vars = S.vars) := DY.2.1.trans E2.out
     have hq := HQ.out
     obtain ⟨DS, Mr⟩ : ∃ DS, S6.aS us = DS := ⟨_, rfl⟩
     rw [Mr] at KD vB E1 hq
     obtain ⟨S7, r⟩ := DS
     simp only at KD vB E1 hq
     clear DY Mr HQ
     go_wp2_with fail
     refine KD.out.mono ?_
     clear KD
     rintro e w7 ⟨rfl, L7, h7, Bg, jl⟩
     have H7 := aa h7
     have zn := aa (aH.aM n9.out Bg iG.out.size)
     have rP := aa (aH.aI n9.out iG.out jl)
     clear h7 Bg jl
     by_cases gU : r = 0
     ·rw [if_pos gU] at hq
      have vv : (r == (0 : Int)) = true := by simp [gU]
      have HQ := aa hq
      clear hq
      go_wp2_with fail
      go_roundg (c0 * (D + 1) + d)
      case measure => have := HG.out; omega
      case rel => exact ⟨c0, d, n + 64, n, S7, L7, rfl, by go_num, rfl, HQ.out, E1.out, vB.out, H7.out, zn.out, rP.out⟩
     ·rw [if_neg gU] at hq
      have vv : (r == (0 : Int)) = false := by simp [gU]
      have FF : Hid (B6 Q L w (.returned (.int .i64 r)) w7) := ⟨S7, r, hq, vB.out, rfl, L7, H7.out, zn.out, rP.out⟩
      clear hq
      go_wp2_with fail
      go_ret
      exact FF.out
   ·have XH : SF.cH n next = SF := by unfold Sv.cH; rw [if_neg yx]
    have rM : Hid ((if next ≤ n then n + 64 else next) = next) := if_neg yx
    have qd := aa (Sv.qT Ve.out n next)
    have QO := aa (Ve.out.cH n next)
    have H3 : Hid (aK w2 L2 (SF.cH n next)) := by rw [XH]; exact H2.out
    clear XH
    obtain ⟨SR, Ex⟩ : ∃ SR, SF.cH n next = SR := ⟨_, rfl⟩
    rw [Ex] at qd QO H3
    have hq := HQ.out
    rw [Ex] at hq
    simp only [rM.out] at hq
    unfold Sv.zR at hq
    obtain ⟨-, -, -, -, -, -, -, -, -, -, -, zz, zy, -⟩ := H3.out.cells
    rw [cL.out.1] at zz zy
    obtain ⟨kE, hrl, fm, XG, Ll, AL⟩ := qd.out
    have AJ : -1152921504606846976 ≤ SR.many ∧ SR.many ≤ 1152921504606846976 := by rw [XG]; exact ⟨Tz, Ty⟩
    have Lh : SR.bU ≤ 2199023255552 := by rw [Ll]; exact Tw
    have tc : Hid (SR.vars = S.vars) := kE.trans Sc.out
    have Z0 : Hid (SR.core = []) := fm.trans HCF.out
    have oM : Hid (SR.T.levels.length ≤ 4398046511104) := aE AL Sn.out
    clear Ex kE hrl fm XG Ll AL qd HQ
    by_cases Hq : (SR.bU : Int) < SR.many
    ·rw [if_pos Hq] at hq
     have AN : red = true := by
      cases red with
      | true => rfl
      | false => simp at hq
     rw [if_pos AN] at hq
     have Dx : decide ((SR.bU : Int) < SR.many) = true := decide_eq_true Hq
     have HQ := aa hq
     have Lg := AJ
     clear hq Hq AJ
     go_wp2_with fail
     go_region
     obtain ⟨w4, Cq⟩ : ∃ w4, World.drew w2 = w4 := ⟨_, rfl⟩
     have ND : Hid (Fr [] w2 w4) := by rw [← Cq]; exact (Fr.refl [] _).drew
     rw [Cq]
     have UR := aa (ZE.out AN w4 L2 SR (H3.out.keep ND.out) QO.out Lg.1 Lg.2)
     rw [cL.out.1] at UR
     have NE : Hid (Fr (L.own w) w w4) := cJ.out.ag (ND.out.mono (fun k hk => by cases hk))
     clear Cq zz zy Dx
     go_wp2_with fail
     refine UR.out.mono ?_
     clear UR
     rintro e w5 ⟨S5, AM, rfl, L5, h5, sP, dK⟩
     have H5 := aa h5
     have mf := aa (aH.aM cL.out sP NE.out.size)
     have qj := aa (aH.aI cL.out NE.out dK)
     have xz := aa AM
     obtain ⟨DD, hD1, hD2, hD3, rfl⟩ := AM
     have Iw := Sv.jD DD SR
     have Jf := aa (Sv.Ok.MG DD SR QO.out)
     obtain ⟨S5, vU⟩ : ∃ S5, DD.foldl Sv.cu SR = S5 := ⟨_, rfl⟩
     rw [vU] at Iw Jf H5 xz
     have HV5 : Hid (S5.vars = S.vars) := Iw.2.1.trans tc.out
     have Su : Hid (S5.core = []) := Iw.2.2.2.1.trans Z0.out
     have Vm : Hid (S5.T.levels.length ≤ 4398046511104) := by show _ ≤ _; rw [Iw.1]; exact oM.out
     have PW : S5.bU ≤ 2199023255552 := by rw [Iw.2.2.2.2.1]; exact Lh
     clear h5 sP dK hD1 hD2 hD3 Iw vU
     obtain ⟨-, -, -, -, -, -, -, -, -, -, -, -, zy, -⟩ := H5.out.cells
     rw [mf.out.1] at zy
     have f12 := H5.out.obj.frozen 12
     rw [mf.out.1] at f12
     obtain ⟨lm, JB⟩ : ∃ lm, S5.bU = lm := ⟨_, rfl⟩
     rw [JB] at zy PW
     have HLM := aa JB
     have O4 : IntKind.i64.wrap (((lm / 16 : Nat) : Int) + 1) = ((lm / 16 : Nat) : Int) + 1 := IntWalk.i64_in _ (by omega)
     have O3 : IntKind.i64.wrap ((lm : Int) + (((lm / 16 : Nat) : Int) + 1)) = (lm : Int) + (((lm / 16 : Nat) : Int) + 1) := IntWalk.i64_in _ (by omega)
     have Fh : Hid ((lm : Int) + ((lm : Int) / 16 + 1) = ((lm + (lm / 16 + 1) : Nat) : Int)) := by show _ = _; omega
     obtain ⟨g6, f6⟩ := H5.out.nE 12 (.int .i64 ((lm + (lm / 16 + 1) : Nat) : Int)) S5.fl (by simp [m7, Sv.fl, JB]) ⟨rfl, rfl, rfl, rfl, rfl, rfl, rfl⟩
     rw [mf.out.1] at g6 f6
     have h6 := g6.keep (Fr.refl [] _).drew
     have Z9 := aa h6
     have NG := aa ((aH.aI mf.out qj.out f6).drew)
     clear JB g6 f6 h6
     go_upto_region 16 with fail
     go_region
     rw [Fh.out]
     obtain ⟨w6, xd⟩ : ∃ w6, (w5.setCell ⟨L.a, 12, none⟩ (.int .i64 ((lm + (lm / 16 + 1) : Nat) : Int))).drew = w6 := ⟨_, rfl⟩
     rw [xd] at Z9 NG ⊢
     have H6 := Z9
     have iG := NG
     have n9 := mf
     have te := aa Jf.out.fl
     have E2 : Hid (S5.fl.vars = S.vars) := HV5.out
     have Jm : Hid (S5.fl.core = []) := Su.out
     have Fb : Hid (S5.fl.T.levels.length ≤ 4398046511104) := Vm.out
     have HQ := aa (HQ.out S5 xz.out)
     obtain ⟨S6, vT⟩ : ∃ S6, S5.fl = S6 := ⟨_, rfl⟩
     rw [vT] at HQ H6 te E2 Jm Fb
     clear vT xd zy f12 O4 O3
     have KD := aa (je w6 L5 S6 H6.out 0 te.out A c us (Wi.out.step n9.out iG.out) (fun x hx => by have := Oa.out x hx; rw [E2.out]; exact this) vo Jm.out Fb.out)
     rw [n9.out.1] at KD
     have DY := te.out.aS us
     have vB := aa DY.1
     have E1 : Hid ((S6.aS us).1.vars = S.vars) := DY.2.1.trans E2.out
     have hq := HQ.out
     obtain ⟨DS, Mr⟩ : ∃ DS, S6.aS us = DS := ⟨_, rfl⟩
     rw [Mr] at KD vB E1 hq
     obtain ⟨S7, r⟩ := DS
     simp only at KD vB E1 hq
     clear DY Mr HQ
     go_wp2_with fail
     refine KD.out.mono ?_
     clear KD
     rintro e w7 ⟨rfl, L7, h7, Bg, jl⟩
     have H7 := aa h7
     have zn := aa (aH.aM n9.out Bg iG.out.size)
     have rP := aa (aH.aI n9.out iG.out jl)
     clear h7 Bg jl
     by_cases gU : r = 0
     ·rw [if_pos gU] at hq
      have vv : (r == (0 : Int)) = true := by simp [gU]
      have HQ := aa hq
      clear hq
      go_wp2_with fail
      go_roundg (c0 * (D + 1) + d)
      case measure => have := HG.out; omega
      case rel => exact ⟨c0, d, next, n, S7, L7, rfl, rfl, rfl, HQ.out, E1.out, vB.out, H7.out, zn.out, rP.out⟩
     ·rw [if_neg gU] at hq
      have vv : (r == (0 : Int)) = false := by simp [gU]
      have FF : Hid (B6 Q L w (.returned (.int .i64 r)) w7) := ⟨S7, r, hq, vB.out, rfl, L7, H7.out, zn.out, rP.out⟩
      clear hq
      go_wp2_with fail
      go_ret
      exact FF.out
    ·rw [if_neg Hq] at hq
     have Dx : decide ((SR.bU : Int) < SR.many) = false := decide_eq_false Hq
     have HQ := aa hq
     clear hq Hq
     go_wp2_with fail
     go_region
     obtain ⟨w6, xd⟩ : ∃ w6, World.drew w2 = w6 := ⟨_, rfl⟩
     have NE : Hid (Fr [] w2 w6) := by rw [← xd]; exact (Fr.refl [] _).drew
     rw [xd]
     have H6 := aa (H3.out.keep NE.out)
     have n9 := cL
     have iG : Hid (Fr (L.own w) w w6) := cJ.out.ag (NE.out.mono (fun k hk => by cases hk))
     have te := QO
     have E2 := tc
     have Jm := Z0
     have Fb := oM
     obtain ⟨S6, vT⟩ : ∃ S6, SR = S6 := ⟨_, rfl⟩
     rw [vT] at HQ H6 te E2 Jm Fb
     clear vT xd zz zy Dx
     have KD := aa (je w6 L2 S6 H6.out 0 te.out A c us (Wi.out.step n9.out iG.out) (fun x hx => by have := Oa.out x hx; rw [E2.out]; exact this) vo Jm.out Fb.out)
     rw [n9.out.1] at KD
     have DY := te.out.aS us
     have vB := aa DY.1
     have E1 : Hid ((S6.aS us).1.vars = S.vars) := DY.2.1.trans E2.out
     have hq := HQ.out
     obtain ⟨DS, Mr⟩ : ∃ DS, S6.aS us = DS := ⟨_, rfl⟩
     rw [Mr] at KD vB E1 hq
     obtain ⟨S7, r⟩ := DS
     simp only at KD vB E1 hq
     clear DY Mr HQ
     go_wp2_with fail
     refine KD.out.mono ?_
     clear KD
     rintro e w7 ⟨rfl, L7, h7, Bg, jl⟩
     have H7 := aa h7
     have zn := aa (aH.aM n9.out Bg iG.out.size)
     have rP := aa (aH.aI n9.out iG.out jl)
     clear h7 Bg jl
     by_cases gU : r = 0
     ·rw [if_pos gU] at hq
      have vv : (r == (0 : Int)) = true := by simp [gU]
      have HQ := aa hq
      clear hq
      go_wp2_with fail
      go_roundg (c0 * (D + 1) + d)
      case measure => have := HG.out; omega
      case rel => exact ⟨c0, d, next, n, S7, L7, rfl, rfl, rfl, HQ.out, E1.out, vB.out, H7.out, zn.out, rP.out⟩
     ·rw [if_neg gU] at hq
      have vv : (r == (0 : Int)) = false := by simp [gU]
      have FF : Hid (B6 Q L w (.returned (.int .i64 r)) w7) := ⟨S7, r, hq, vB.out, rfl, L7, H7.out, zn.out, rP.out⟩
      clear hq
      go_wp2_with fail
      go_ret
      exact FF.out
def zi (n : Nat) : List Value := (Builtin.zeroCells #[.int .i64 0] n).toList
theorem SC (n : Nat) : ∀ v ∈ zi n, v.oneCell' = true := by
 intro v hv
 simp only [zi, Builtin.zeroCells, Array.toList_map, bE] at hv
 obtain ⟨i, _, rfl⟩ := hv
 simp [Nat.mod_one]
 rfl
theorem GG (n : Nat) : (zi n).length = n := by simp [zi, Builtin.zeroCells]
theorem vH (w : World) (g o c ty n : Nat) (w' : World) (h : (storeCells ⟨g, o, none⟩ (zi (n + 1))).run Tryz.prog w = .ok () w') :
  (Builtin.clear_ #[22] ty #[.slice (some ⟨g, o, none⟩) (n + 1) c]).run Tryz.prog w = .ok (.tuple #[]) w' := by
 simp only [zi] at h
 simp only [Builtin.clear_, go_sem]
 simp [h, run_underlying Tryz.underlying22]
theorem mz (w : World) (g c i ty c' : Nat) (xs : List Int) (h : Ints w (some ⟨g, 0, none⟩) c xs) (hi : i < xs.length) :
  ∃ w', (Builtin.clear_ #[22] ty #[.slice (some ⟨g, i, none⟩) (xs.length - i) c']).run Tryz.prog w = .ok (.tuple #[]) w' ∧ Ints w' (some ⟨g, 0, none⟩) c (xs.take i) ∧ Fr [g] w w' := by
 have hl := h.1
 rcases h.2 with ⟨h1, _⟩ | ⟨g', cap, cur, hv, hb, hg, hn, hm, hs, ht⟩
 ·cases h1
 ·simp only [Value.slice.injEq, Option.some.injEq, Addr.mk.injEq, and_true, true_and] at hv
  obtain ⟨rfl, rfl⟩ := hv
  have hz := GG (xs.length - i)
  have ni := run_storeCells_at (P := Tryz.prog) g i 3 (zi (xs.length - i)) 0 cur w hg (by rw [hz, Nat.add_zero, hs]; omega) (SC _)
  obtain ⟨m, rr⟩ : ∃ m, xs.length - i = m + 1 := ⟨xs.length - i - 1, by omega⟩
  obtain ⟨new, kG⟩ : ∃ new, cur.toList.take (i + 0) ++ zi (xs.length - i) ++ cur.toList.drop (i + 0 + (zi (xs.length - i)).length) = new := ⟨_, rfl⟩
  rw [kG] at ni
  have hlen : new.length = c := by
   rw [← kG]
   simp only [ai, bk, List.length_drop, hz, Array.length_toList, hs]
   omega
  have FQ : new.take i = (xs.take i).map (Value.int .i64) := by
   rw [List.map_take, ← ht, ← kG, List.take_take, List.append_assoc, Nat.add_zero, kU (by rw [bk, Array.length_toList, hs]; omega), List.take_take]
   congr 1
   omega
  clear kG
  refine ⟨w.setRow g new.toArray, ?_, ?_, ?_⟩
  ·rw [rr] at ni ⊢
   exact vH _ _ _ _ _ _ _ ni
  ·have PW : (xs.take i).length = i := by rw [bk]; omega
   refine ⟨by simp, .inr ⟨g, c, new.toArray, rfl, hb, setRow_heap w g cur _ _ _ hg, by omega, hm, by rw [List.size_toArray, hlen]; omega, ?_⟩⟩
   rw [PW]
   simpa using FQ
  ·refine ⟨rfl, rfl, rfl, by simp, fun k _ hk => setRow_other _ _ _ _ (fun e => hk (by simp [e]))⟩
theorem Ra.set {xs : List Int} (h : Ra xs) (i : Nat) {x : Int} (hx : dB x) : Ra (xs.set i x) := by
 refine (eN (p := dB)).2 fun y hy => ?_
 rcases List.mem_or_eq_of_mem_set hy with h1 | h1
 ·exact (eN (p := dB)).1 h y h1
 ·rw [h1]; exact hx
theorem Ra.sub {xs ys : List Int} (h : Ra xs) (hs : ∀ y ∈ ys, y ∈ xs) : Ra ys := (eN (p := dB)).2 fun y hy => (eN (p := dB)).1 h y (hs y hy)
def GF (F : List Nat) (w : World) (g : Nat) (cb : Array Value) (p : Int → Bool) (xs : List Int) : Prop := ∀ W, Fr F w W → ∀ x, x ∈ xs → dB x →
 Calls Tryz.prog g (#[.int .i64 x] ++ cb) W fun e w' => e = .returned (.bool (p x)) ∧ Fr [] W w'
theorem GF.less {F : List Nat} {w : World} {g : Nat} {cb : Array Value} {p : Int → Bool} {xs : List Int} (h : GF F w g cb p xs) : Q8 w g cb p xs := fun W hW x hx hr => h W (hW.mono (fun k hk => by cases hk)) x hx hr
def IxF (p : Int → Bool) (xs : List Int) (w : World) (e : Ending) (w' : World) : Prop :=
 ((e = .returned (.int .i64 (-1)) ∧ ∀ x ∈ xs, p x = false) ∨ ∃ n : Nat, e = .returned (.int .i64 n) ∧ n < xs.length ∧ p xs[n]! = true ∧ ev xs p n) ∧ Fr [] w w'
theorem rl (w : World) (A : Option Addr) (c : Nat) (xs : List Int) (g : Nat) (cb : Array Value) (p : Int → Bool) (eg : ∀ args w, (callFunc g args).run Tryz.prog w = .ok (.enter g args) w) (h : Rd w A xs) (hr : Ra xs) (hl : xs.length ≤ 17592186044416) (hp : Q8 w g cb p xs) :
  Calls Tryz.prog 90 #[.slice A xs.length c, .func (.func g) #[] cb] w (IxF p xs w) := by
 have HH := aa h
 have HR := aa hr
 have HP := aa hp
 have rI : Hid (∀ (n : Nat) W, n < xs.length → p xs[n]! = true → ev xs p n → Fr [] w W → IxF p xs w (.returned (.int .i64 (n : Int))) W) := fun n W h1 h2 h3 h4 => ⟨.inr ⟨n, rfl, h1, h2, h3⟩, h4⟩
 have NO : Hid (∀ W, ev xs p xs.length → Fr [] w W → IxF p xs w (.returned (.int .i64 (-1))) W) := fun W h2 h3 => ⟨.inl ⟨rfl, (eN (p := fun x => p x = false)).1 (fun j hj => h2 j hj)⟩, h3⟩
 clear h hr hp
 go_enter Tryz.func90, Tryz.ntmps90
 go_wp2_with fail
 go_loopg [8] xs.length (fun g i wr => ∃ k : Nat, k + g = xs.length ∧ i = .int .i64 k ∧ Fr [] w wr ∧ ev xs p k)
 case atStart => exact ⟨0, by omega, rfl, Fr.refl _ _, ev.zero _ _⟩
 case round =>
  obtain ⟨k, hk, rfl, hx, hn⟩ := hrel
  have HK := aa hk
  have HX := aa hx
  have HN := aa hn
  have j4 : k ≤ xs.length := by omega
  clear hk hx hn
  by_cases bM : k < xs.length
  ·obtain ⟨b, o, x, hA, he, cx, gP, iP⟩ := (HH.out.keep HX.out).one HR.out bM
   subst hA
   obtain ⟨q, HQ⟩ : ∃ q, Hid (p x = q) := ⟨_, rfl⟩
   have HC := aa (HP.out wr HX.out x (by rw [← he.out]; exact bw bM) ⟨gP, iP⟩)
   go_wp2_with fail
   refine HC.out.mono ?_
   rw [HQ.out]
   rintro e w2 ⟨rfl, hf⟩
   have HF := aa (HX.out.ag hf)
   clear hf
   cases q with
   | true =>
    go_wp2_with fail
    go_ret
    exact rI.out k _ bM (by rw [he.out]; exact HQ.out) HN.out HF.out
   | false =>
    go_wp2_with fail
    go_roundg (gk - 1)
    case measure => have := HK.out; omega
    case rel => exact ⟨k + 1, by have := HK.out; omega, by go_num, HF.out, HN.out.step (by rw [he.out]; exact HQ.out)⟩
  ·obtain rfl : k = xs.length := by omega
   clear HK
   go_wp2_with fail
   go_ret
   exact NO.out _ HN.out HX.out
def B7 (ys : List Int) (A : Option Addr) (c : Nat) (w : World) (e : Ending) (w' : World) : Prop := e = .returned (.slice A ys.length c) ∧ Ints w' A c ys ∧ Fr (ah A) w w'
theorem IK {xs : List Int} {p : Int → Bool} {n : Nat} (h : ev xs p n) : (xs.take n).filter (fun x => !p x) = xs.take n := by
 rw [List.filter_eq_self]
 intro x hx
 obtain ⟨j, hj, e⟩ := List.mem_iff_getElem.1 hx
 rw [bk] at hj
 rw [List.getElem_take] at e
 have := h j (by omega)
 rw [ae, af (by omega), aq, e] at this
 simp [this]
theorem xr (xs : List Int) (p : Int → Bool) {j : Nat} (hj : j < xs.length) : (xs.take (j + 1)).filter (fun x => !p x) = (xs.take j).filter (fun x => !p x) ++ (if p xs[j]! = true then [] else [xs[j]!]) := by
 rw [List.take_add_one, List.filter_append, af hj, eI]
 congr 1
 simp only [ae, af hj, aq]
 by_cases h : p xs[j] = true <;> simp [h]
theorem z7 (L : List Int) (i : Nat) (x : Int) (h : i < L.length) : (L.set i x).take (i + 1) = L.take i ++ [x] := by
 rw [List.take_add_one, List.take_set_of_le (ao _), List.getElem?_set_self h]
 rfl
theorem uy {L : List Int} {i k : Nat} {x : Int} (h : i < k) : (L.set i x)[k]! = L[k]! := by
 simp only [ae]
 rw [List.getElem?_set_ne (by omega)]
theorem yT (w : World) (g c : Nat) (xs : List Int) (f : Nat) (cb : Array Value) (p : Int → Bool) (eg : ∀ args w, (callFunc f args).run Tryz.prog w = .ok (.enter f args) w) (h : Ints w (some ⟨g, 0, none⟩) c xs) (hr : Ra xs) (hl : xs.length ≤ 17592186044416) (hp : GF [g] w f cb p xs) :
  Calls Tryz.prog 127 #[.slice (some ⟨g, 0, none⟩) xs.length c, .func (.func f) #[] cb] w (B7 (xs.filter fun x => !p x) (some ⟨g, 0, none⟩) c w) := by
 have HH := aa h
 have HR := aa hr
 have HP := aa hp
 have Qg : xs.length ≤ c ∧ c ≤ maxLen := by
  rcases h.form with ⟨h1, _⟩ | ⟨g', h1, _, h2, h3⟩
  ·cases h1
  ·exact ⟨h2, h3⟩
 have Bj := Qg.2
 have Qg := Qg.1
 rw [maxLen] at Bj
 obtain ⟨R, hR⟩ : ∃ R, xs.filter (fun x => !p x) = R := ⟨_, rfl⟩
 have HRR := aa hR
 rw [hR]
 have NO : Hid (R = xs → ∀ W, Fr [] w W → B7 R (some ⟨g, 0, none⟩) c w (.returned (.slice (some ⟨g, 0, none⟩) xs.length c)) W) := fun e W h2 => by
  subst e
  exact ⟨rfl, HH.out.fr h2 (by simp), h2.mono (by simp)⟩
 have rI : Hid (∀ (i : Nat) (L : List Int) W W', i < L.length → L.take i = R → Fr [g] w W → Ints W' (some ⟨g, 0, none⟩) c (L.take i) → Fr [g] W W' → B7 R (some ⟨g, 0, none⟩) c w (.returned (.slice (some ⟨g, 0, none⟩) i c)) W') := fun i L W W' h1 h2 h4 h5 h6 => by
  have hi : (L.take i).length = i := by rw [bk]; omega
  rw [← h2]
  exact ⟨by rw [hi], h5, by simpa [ah] using h4.ag h6⟩
 have HI := aa (rl w (some ⟨g, 0, none⟩) c xs f cb p eg h.rd hr hl hp.less)
 clear h hr hp hR
 go_enter Tryz.func127, Tryz.ntmps127
 go_wp2_with fail
 refine HI.out.mono ?_
 rintro e w1 ⟨hc, cE⟩
 have dv := aa cE
 clear cE
 rcases hc with ⟨rfl, jd⟩ | ⟨n, rfl, hn, RF, xj⟩
 ·have ag8 : Hid (R = xs) := by
   rw [← HRR.out]
   exact List.filter_eq_self.2 (fun x hx => by simp [jd x hx])
  clear jd
  go_wp2_with fail
  go_ret
  exact NO.out ag8.out _ dv.out
 ·have HO0 := aa (HH.out.fr dv.out (by simp))
  have HNE : Hid (((n : Int) == -1) = false) := (beq_eq_false_iff_ne.2 (by omega) : ((n : Int) == -1) = false)
  have HS0 : Hid (xs.take n = (xs.take (n + 1)).filter (fun x => !p x)) := by
   show xs.take n = _
   rw [xr xs p hn, RF, IK xj]
   simp
  clear RF xj
  go_wp2_with fail
  go_loopg [5, 6] (xs.length - (n + 1)) (fun gk x5 x6 wr => ∃ (i j : Nat) (L : List Int), j + gk = xs.length ∧ x5 = .int .i64 i ∧ x6 = .int .i64 j ∧ i < j ∧ L.length = xs.length ∧ Ra L ∧ Hid (L.take i = (xs.take j).filter (fun x => !p x)) ∧ Hid (∀ k : Nat, j ≤ k → L[k]! = xs[k]!) ∧ Ints wr (some ⟨g, 0, none⟩) c L ∧ Fr [g] w wr)
  case atStart => exact ⟨n, n + 1, xs, by omega, rfl, by go_num, by omega, rfl, HR.out, HS0.out, fun _ _ => rfl, HO0.out, dv.out.mono (by simp)⟩
  case round =>
   obtain ⟨i, j, L, hk, rfl, rfl, rt, YN, YM, HT, HG, ho, hf⟩ := hrel
   have HK := aa hk
   have HO := aa ho
   have HF := aa hf
   have oM := aa YM
   have Ip : j ≤ xs.length := by omega
   have oN := aa YN
   clear hk ho hf HO0 dv YM YN
   by_cases bM : j < xs.length
   ·obtain ⟨b, o, x, hA, he, cx, gP, iP⟩ := (HO.out.rd).one oM.out (j := j) (by rw [oN.out]; exact bM)
    simp only [Option.some.injEq, Addr.mk.injEq, and_true] at hA
    obtain ⟨rfl, rfl⟩ := hA
    rw [cZ] at cx
    have HX : Hid (xs[j]! = x) := (HG.out j (ao _)).symm.trans he.out
    obtain ⟨q, HQ⟩ : ∃ q : Bool, Hid (p x = q) := ⟨p x, aa rfl⟩
    have HC := aa (HP.out wr HF.out x (by rw [← HX.out]; exact bw bM) ⟨gP, iP⟩)
    rw [HQ.out] at HC
    have Gw : Hid ((xs.take (j + 1)).filter (fun x => !p x) = L.take i ++ if q = true then [] else [x]) := by
     show _ = _
     rw [xr xs p bM, HX.out, HQ.out, HT.out]
    go_wp2_with fail
    refine HC.out.mono ?_
    clear HC cx
    rintro e w3 ⟨rfl, hf⟩
    have cR : Hid (Fr [g] w w3) := HF.out.ag (hf.mono (by simp))
    have oK := aa (HO.out.fr hf (by simp))
    clear HF HO hf
    cases q with
    | true =>
     go_wp2_with fail
     go_roundg (gk - 1)
     case measure => have := HK.out; omega
     case rel => exact ⟨i, j + 1, L, by have := HK.out; omega, rfl, by go_num, by omega, oN.out, oM.out, by show _ = _; rw [Gw.out]; simp, fun k hk => HG.out k (by omega), oK.out, cR.out⟩
    | false =>
     have hiL : i < L.length := by rw [oN.out]; omega
     have f0 := oK.out.frozen i
     have c0 := oK.out.cell hiL
     go_wp2_with fail
     go_roundg (gk - 1)
     case measure => have := HK.out; omega
     case rel => exact ⟨i + 1, j + 1, L.set i x, by have := HK.out; omega, by go_num, by go_num, by omega, by rw [ak]; exact oN.out, oM.out.set i ⟨gP, iP⟩, by show _ = _; rw [Gw.out, z7 _ _ _ hiL]; simp, fun k hk => (uy (by omega)).trans (HG.out k (by omega)), oK.out.cV i x, cR.out.setCell (.inl (by simp)) _⟩
   ·obtain rfl : j = xs.length := by omega
    have LZ := mz wr g c i 0 (c - i) L HO.out (by rw [oN.out]; exact rt)
    rw [oN.out] at LZ
    obtain ⟨w2, qh, lW, cd⟩ := LZ
    have Zk : Hid (L.take i = R) := by
     show _ = _
     rw [HT.out, fO]
     exact HRR.out
    go_wp2_with fail
    go_ret
    exact rI.out i L wr _ (by rw [oN.out]; exact rt) Zk.out HF.out lW cd
theorem uL (w : World) (A : Option Addr) (c : Nat) (xs : List Int) (f : Nat) (cb : Array Value) (p : Int → Bool) (eg : ∀ args w, (callFunc f args).run Tryz.prog w = .ok (.enter f args) w) (h : Ints w A c xs) (hr : Ra xs) (hl : xs.length ≤ 17592186044416) (hp : GF (ah A) w f cb p xs) :
  Calls Tryz.prog 127 #[.slice A xs.length c, .func (.func f) #[] cb] w (B7 (xs.filter fun x => !p x) A c w) := by
 rcases h.form with ⟨rfl, rfl, rfl⟩ | ⟨g, rfl, _⟩
 ·have HI := aa (rl w none 0 [] f cb p eg (fun h => absurd h (aG _)) hr (by simp) hp.less)
  have HH := aa h
  clear h hp
  go_enter Tryz.func127, Tryz.ntmps127
  go_wp2_with fail
  refine HI.out.mono ?_
  rintro e w1 ⟨hc, cE⟩
  rcases hc with ⟨rfl, _⟩ | ⟨n, rfl, hn, _⟩
  ·have HF := aa cE
   clear cE
   go_wp2_with fail
   go_ret
   exact ⟨rfl, HH.out.fr HF.out (by simp), HF.out.mono (by simp)⟩
  ·exact absurd hn (aG _)
 ·exact yT w g c xs f cb p eg h hr hl (by simpa [ah] using hp)
def fL (xs : List Int) : Nat → List Int
 | 0 => []
 | k + 1 => if k = 0 ∨ xs[k]! ≠ xs[k - 1]! then fL xs k ++ [xs[k]!] else fL xs k
def Qy (xs : List Int) : List Int := fL xs xs.length
theorem Gb {xs : List Int} {k : Nat} (h : xs[k + 1]! ≠ xs[k]!) : fL xs (k + 2) = fL xs (k + 1) ++ [xs[k + 1]!] := by
 rw [fL.eq_2, if_pos (.inr h)]
theorem Ga {xs : List Int} {k : Nat} (h : xs[k + 1]! = xs[k]!) : fL xs (k + 2) = fL xs (k + 1) := by
 rw [fL.eq_2, if_neg]
 rintro (h1 | h1)
 ·omega
 ·exact h1 h
theorem wK {xs : List Int} {k : Nat} (h : k < xs.length) : xs.take (k + 1) = xs.take k ++ [xs[k]!] := by
 rw [List.take_add_one, af h, eI]
 simp only [ae, af h, aq]
theorem F9 (xs : List Int) (h : 0 < xs.length) : fL xs 1 = xs.take 1 := by
 rw [wK h]
 simp [fL]
theorem vY (w : World) (g c : Nat) (xs : List Int) (h : Ints w (some ⟨g, 0, none⟩) c xs) (hr : Ra xs) (hl : xs.length ≤ 17592186044416) :
  Calls Tryz.prog 158 #[.slice (some ⟨g, 0, none⟩) xs.length c] w (B7 (Qy xs) (some ⟨g, 0, none⟩) c w) := by
 have HH := aa h
 have HR := aa hr
 have Qg : xs.length ≤ c ∧ c ≤ maxLen := by
  rcases h.form with ⟨h1, _⟩ | ⟨g', h1, _, h2, h3⟩
  ·cases h1
  ·exact ⟨h2, h3⟩
 have Bj := Qg.2
 have Qg := Qg.1
 rw [maxLen] at Bj
 have NO : Hid (fL xs xs.length = xs → ∀ W, Fr [] w W → B7 (Qy xs) (some ⟨g, 0, none⟩) c w (.returned (.slice (some ⟨g, 0, none⟩) xs.length c)) W) := fun e W h2 => by
  unfold Qy
  rw [e]
  exact ⟨rfl, HH.out.fr h2 (by simp), h2.mono (by simp)⟩
 have rI : Hid (∀ (i : Nat) (L : List Int) W W', i < L.length → L.take i = fL xs xs.length → Fr [g] w W → Ints W' (some ⟨g, 0, none⟩) c (L.take i) → Fr [g] W W' → B7 (Qy xs) (some ⟨g, 0, none⟩) c w (.returned (.slice (some ⟨g, 0, none⟩) i c)) W') := fun i L W W' h1 h2 h4 h5 h6 => by
  have hi : (L.take i).length = i := by rw [bk]; omega
  unfold Qy
  rw [← h2]
  exact ⟨by rw [hi], h5, by simpa [ah] using h4.ag h6⟩
 clear h hr
 by_cases h2 : xs.length < 2
 ·have d2 : decide ((xs.length : Int) < 2) = true := decide_eq_true (by omega)
  go_enter Tryz.func158, Tryz.ntmps158
  go_wp2_with fail
  go_ret
  exact NO.out (by
   rcases bl 0 xs.length with h0 | h0
   ·have e : xs.length = 1 := by omega
    rw [e, F9 xs h0]
    exact dh (by omega)
   ·have e : xs.length = 0 := by omega
    rw [e]
    exact (a6 e).symm) _ (Fr.refl _ _)
 ·have d2 : decide ((xs.length : Int) < 2) = false := decide_eq_false (by omega)
  go_enter Tryz.func158, Tryz.ntmps158
  go_wp2_with fail
  go_loopg [3] (xs.length - 1) (fun gk x3 wr => ∃ j : Nat, j + 1 + gk = xs.length ∧ x3 = .int .i64 ((j + 1 : Nat) : Int) ∧ Hid (fL xs (j + 1) = xs.take (j + 1)) ∧ Fr [] w wr)
  case atStart => exact ⟨0, by omega, rfl, F9 xs (by omega), Fr.refl _ _⟩
  case round =>
   obtain ⟨j, hk, rfl, HD, hf⟩ := hrel
   have HK := aa hk
   have HF := aa hf
   have HO := aa (HH.out.fr hf (by simp))
   have PZ : j + 1 ≤ xs.length := by omega
   clear hk hf
   by_cases bM : j + 1 < xs.length
   ·obtain ⟨b, o, x, hA, he, cx, gP, iP⟩ := (HO.out.rd).one HR.out bM
    obtain ⟨b', o', x', zx, eG, MJ, S8, Xq⟩ := (HO.out.rd).one HR.out (j := j) (by omega)
    simp only [Option.some.injEq, Addr.mk.injEq, and_true] at hA zx
    obtain ⟨rfl, rfl⟩ := hA
    obtain ⟨rfl, rfl⟩ := zx
    rw [cZ] at cx MJ
    have e1 := Ext.cell cx
    have e2 := Ext.cell MJ
    obtain ⟨q, HQ⟩ : ∃ q : Bool, Hid ((x == x') = q) := ⟨(x == x'), aa rfl⟩
    have hq := HQ.out
    have ep : IntKind.i64.wrap (((j + 1 : Nat) : Int) - 1) = (j : Int) := by rw [IntKind.wrap_i64]; omega
    cases q with
    | false =>
     have QR : Hid (fL xs (j + 1 + 1) = xs.take (j + 1 + 1)) := by
      show _ = _
      rw [Gb (by rw [he.out, eG.out]; exact fun e => by have := HQ.out; simp [e] at this), HD.out, wK bM]
     go_wp2_with fail
     refine al (by kernel_rfl) (by kernel_rfl) ?_
     repeat (go_big_quiet_step (fail))
     refine wpQuiet_nil ?_
     rintro w2 ⟨u2, bJ⟩
     have aT : Hid (Fr [] wr w2) := bJ ▸ u2.fr
     clear bJ u2
     clear cx MJ e1 e2
     go_wp2_with fail
     go_roundg (gk - 1)
     case measure => have := HK.out; omega
     case rel => exact ⟨j + 1, by have := HK.out; omega, by go_num, QR.out, HF.out.ag aT.out⟩
    | true =>
     have agh : Hid (xs.take (j + 1) = fL xs (j + 1 + 0 + 1)) := by
      show _ = _
      rw [Nat.add_zero, Ga (by rw [he.out, eG.out]; exact beq_iff_eq.1 HQ.out), HD.out]
     go_wp2_with fail
     refine al (by kernel_rfl) (by kernel_rfl) ?_
     repeat (go_big_quiet_step (fail))
     refine wpQuiet_nil ?_
     rintro w2 ⟨u2, bJ⟩
     have aT : Hid (Fr [] wr w2) := bJ ▸ u2.fr
     clear bJ u2
     clear cx MJ e1 e2 hq ep
     have sB := aa (HO.out.fr aT.out (by simp))
     have cJ := aa (HF.out.ag aT.out)
     clear HO HF aT
     go_wp2_with fail
     generalize hM2 : xs.length - (j + 1) = M2
     go_loopg [3, 5] (M2 - 1) (fun gk x3 x5 wr => ∃ (k m : Nat) (L : List Int), m + 1 + gk = M2 ∧ x3 = .int .i64 k ∧ x5 = .int .i64 ((m + 1 : Nat) : Int) ∧ j + 1 ≤ k ∧ k < j + 1 + (m + 1) ∧ L.length = xs.length ∧ Ra L ∧ Hid (L.take k = fL xs (j + 1 + m + 1)) ∧ Hid (∀ q : Nat, j + 1 + m ≤ q → L[q]! = xs[q]!) ∧ Ints wr (some ⟨g, 0, none⟩) c L ∧ Fr [g] w wr)
     case atStart => exact ⟨j + 1, 0, xs, by omega, by go_num, by go_num, by omega, by omega, rfl, HR.out, agh.out, fun _ _ => rfl, sB.out, cJ.out.mono (by simp)⟩
     case round =>
      obtain ⟨k, m, L, hk, rfl, rfl, Ec, LM, YN, YM, HT, HG, ho, hf⟩ := hrel
      have HK := aa hk
      have HF := aa hf
      have HO := aa ho
      have oN := aa YN
      have oM := aa YM
      have VX : m + 1 ≤ M2 := by omega
      clear hk hf ho YN YM sB cJ
      by_cases pI : m + 1 < M2
      ·obtain ⟨b, o, y, hA, he, cy, gx, kg⟩ := (HO.out.rd).one oM.out (j := j + 1 + (m + 1)) (by rw [oN.out]; omega)
       obtain ⟨b', o', y', zx, eG, oV, ado, adn⟩ := (HO.out.rd).one oM.out (j := j + 1 + m) (by rw [oN.out]; omega)
       simp only [Option.some.injEq, Addr.mk.injEq, and_true] at hA zx
       obtain ⟨rfl, rfl⟩ := hA
       obtain ⟨rfl, rfl⟩ := zx
       rw [cZ] at cy oV
       have e1 := Ext.cell cy
       have e2 := Ext.cell oV
       have ep : IntKind.i64.wrap (((m + 1 : Nat) : Int) - 1) = (m : Int) := by rw [IntKind.wrap_i64]; omega
       obtain ⟨q, HQ⟩ : ∃ q : Bool, Hid ((y != y') = q) := ⟨(y != y'), aa rfl⟩
       have hq := HQ.out
       have hG : Hid (xs[j + 1 + m + 1]! = y) := (HG.out (j + 1 + m + 1) (by omega)).symm.trans he.out
       have ie : Hid (xs[j + 1 + m]! = y') := (HG.out (j + 1 + m) (ao _)).symm.trans eG.out
       cases q with
       | false =>
        have HS : Hid (L.take k = fL xs (j + 1 + (m + 1) + 1)) := by
         show _ = _
         rw [HT.out, show j + 1 + (m + 1) + 1 = j + 1 + m + 2 from by omega, Ga (by rw [hG.out, ie.out]; have := HQ.out; simpa using this)]
        go_wp2_with fail
        refine al (by kernel_rfl) (by kernel_rfl) ?_
        repeat (go_big_quiet_step (fail))
        refine wpQuiet_nil ?_
        rintro w2 ⟨u2, bJ⟩
        have aT : Hid (Fr [] wr w2) := bJ ▸ u2.fr
        clear bJ u2
        clear cy oV e1 e2
        go_wp2_with fail
        go_roundg (gk - 1)
        case measure => have := HK.out; omega
        case rel => exact ⟨k, m + 1, L, by have := HK.out; omega, rfl, by go_num, Ec, by omega, oN.out, oM.out, HS.out, fun q hq => HG.out q (by omega), HO.out.fr aT.out (by simp), HF.out.ag (aT.out.mono (by simp))⟩
       | true =>
        have hkL : k < L.length := by rw [oN.out]; omega
        have HS : Hid ((L.set k y).take (k + 1) = fL xs (j + 1 + (m + 1) + 1)) := by
         show _ = _
         rw [z7 _ _ _ hkL, HT.out, show j + 1 + (m + 1) + 1 = j + 1 + m + 2 from by omega, Gb (by rw [hG.out, ie.out]; have := HQ.out; simpa using this), hG.out]
        go_wp2_with fail
        refine al (by kernel_rfl) (by kernel_rfl) ?_
        repeat (go_big_quiet_step (fail))
        refine wpQuiet_nil ?_
        rintro w2 ⟨u2, bJ⟩
        have aT : Hid (Fr [] wr w2) := bJ ▸ u2.fr
        clear bJ u2
        have oK := aa (HO.out.fr aT.out (by simp))
        have cR : Hid (Fr [g] w w2) := HF.out.ag (aT.out.mono (by simp))
        have cy2 := aT.out.av cy
        clear cy oV e1 e2 hq ep HF HO aT
        have f0 := oK.out.frozen k
        have c0 := oK.out.cell hkL
        go_wp2_with fail
        go_roundg (gk - 1)
        case measure => have := HK.out; omega
        case rel => exact ⟨k + 1, m + 1, L.set k y, by have := HK.out; omega, by go_num, by go_num, by omega, by omega, by rw [ak]; exact oN.out, oM.out.set k ⟨gx, kg⟩, HS.out, fun q hq => (uy (by omega)).trans (HG.out q (by omega)), oK.out.cV k y, cR.out.setCell (.inl (by simp)) _⟩
      ·obtain rfl : M2 = m + 1 := by omega
       have nH : k < xs.length := by omega
       have LZ := mz wr g c k 0 (c - k) L HO.out (by rw [oN.out]; exact nH)
       rw [oN.out] at LZ
       obtain ⟨w2, qh, lW, cd⟩ := LZ
       have Zk : Hid (L.take k = fL xs xs.length) := by
        show _ = _
        rw [HT.out, show j + 1 + m + 1 = xs.length from by omega]
       go_wp2_with fail
       go_ret
       exact rI.out k L wr _ (by rw [oN.out]; exact nH) Zk.out HF.out lW cd
   ·have HDD : Hid (fL xs xs.length = xs) := by
     show _ = _
     have e : j + 1 = xs.length := by omega
     have := HD.out
     rw [e, fO] at this
     exact this
    clear HK
    go_wp2_with fail
    go_ret
    exact NO.out HDD.out _ HF.out
theorem BH (w : World) (A : Option Addr) (c : Nat) (xs : List Int) (h : Ints w A c xs) (hr : Ra xs) (hl : xs.length ≤ 17592186044416) :
  Calls Tryz.prog 158 #[.slice A xs.length c] w (B7 (Qy xs) A c w) := by
 rcases h.form with ⟨rfl, rfl, rfl⟩ | ⟨g, rfl, _⟩
 ·have HH := aa h
  clear h
  go_enter Tryz.func158, Tryz.ntmps158
  go_wp2_with fail
  go_ret
  exact ⟨rfl, HH.out, Fr.refl _ _⟩
 ·exact vY w g c xs h hr hl
theorem Rb {a : Int} (h : dB a) (hl : a < wrap64 (-a)) : wrap64 (-a) = tv a := by
 obtain ⟨h0, h1⟩ := h
 rcases kz a h0 with ⟨h2, h3⟩ | ⟨h2, h3, h4⟩ | ⟨h2, h3, h4⟩
 ·have : wrap64 (-a) = -a := by unfold wrap64; omega
  omega
 ·rw [h4]; unfold wrap64; omega
 ·omega
theorem Re {a : Int} (h : dB a) (hl : ¬ a < wrap64 (-a)) : a = tv a := by
 obtain ⟨h0, h1⟩ := h
 rcases kz a h0 with ⟨h2, h3⟩ | ⟨h2, h3, h4⟩ | ⟨h2, h3, h4⟩
 ·omega
 ·have : wrap64 (-a) = -a := by unfold wrap64; omega
  omega
 ·omega
theorem I6 (w : World) (a : Int) (h : dB a) : Calls Tryz.prog 55 #[.int .i64 a] w fun e w' => e = .returned (.int .i64 (tv a)) ∧ w = w' := by
 have HU := aa (@Rb a h)
 have HO := aa (@Re a h)
 go_enter Tryz.func55, Tryz.ntmps55
 go_wp2_with fail
 all_goals (go_ret; first | exact ⟨by rw [← HU.out (by assumption)]; rfl, rfl⟩ | exact ⟨by rw [← HO.out (by omega)]; rfl, rfl⟩)
def fI (vars : Int) (x : Int) : Bool := decide (tv x < 1) || decide (vars < tv x)
theorem EI (W : World) (b : Nat) (vars : Int) (hc : W.cell? ⟨b, 0, none⟩ = some (.int .i64 vars)) (x : Int) (hx : dB x) :
  Calls Tryz.prog 54 #[.int .i64 x, .pointer (some ⟨b, 0, none⟩)] W fun e w' => e = .returned (.bool (fI vars x)) ∧ Fr [] W w' := by
 have KA := aa (fun u : Ext W => I6 u.v x hx)
 obtain ⟨t, ht⟩ : ∃ t, tv x = t := ⟨_, rfl⟩
 simp only [ht] at KA
 have eb := Ext.cell hc
 unfold fI
 rw [ht]
 by_cases h1 : t < 1
 ·have hd : decide (t < 1) = true := decide_eq_true h1
  rw [hd]
  go_enter Tryz.func54, Tryz.ntmps54
  go_wp2_with fail
  refine al (by kernel_rfl) (by kernel_rfl) ?_
  repeat (go_big_quiet_step (exact aV (KA.out _)))
  refine wpQuiet_nil ?_
  rintro w2 ⟨u2, bJ⟩
  have aT : Hid (Fr [] W w2) := bJ ▸ u2.fr
  clear bJ u2
  clear eb hc
  go_wp2_with fail
  go_ret
  exact ⟨rfl, aT.out⟩
 ·have hd : decide (t < 1) = false := decide_eq_false h1
  rw [hd]
  by_cases h2 : vars < t
  ·have sS : decide (vars < t) = true := decide_eq_true h2
   rw [sS]
   go_enter Tryz.func54, Tryz.ntmps54
   go_wp2_with fail
   refine al (by kernel_rfl) (by kernel_rfl) ?_
   repeat (go_big_quiet_step (exact aV (KA.out _)))
   refine wpQuiet_nil ?_
   rintro w2 ⟨u2, bJ⟩
   have aT : Hid (Fr [] W w2) := bJ ▸ u2.fr
   clear bJ u2
   clear eb hc
   go_wp2_with fail
   go_ret
   exact ⟨rfl, aT.out⟩
  ·have sS : decide (vars < t) = false := decide_eq_false h2
   rw [sS]
   go_enter Tryz.func54, Tryz.ntmps54
   go_wp2_with fail
   refine al (by kernel_rfl) (by kernel_rfl) ?_
   repeat (go_big_quiet_step (exact aV (KA.out _)))
   refine wpQuiet_nil ?_
   rintro w2 ⟨u2, bJ⟩
   have aT : Hid (Fr [] W w2) := bJ ▸ u2.fr
   clear bJ u2
   clear eb hc
   go_wp2_with fail
   go_ret
   exact ⟨rfl, aT.out⟩
theorem Bz : ∀ args w, (callFunc 54 args).run Tryz.prog w = .ok (.enter 54 args) w := enters_of Tryz.func54 (by kernel_rfl) rfl
def kK (vars : Int) (xs : List Int) : Int := if 1024 < xs.length then 5 else if xs.any (fI vars) = true then 4 else 0
theorem il (w : World) (vars : Int) (A : Option Addr) (c : Nat) (xs : List Int) (h : Rd w A xs) (hr : Ra xs) :
  Calls Tryz.prog 26 #[.int .i64 vars, .slice A xs.length c] w fun e w' => e = .returned (.int .i64 (kK vars xs)) ∧ Fr [] w w' := by
 unfold kK
 by_cases hl : 1024 < xs.length
 ·rw [if_pos hl]
  have LK : (1024 : Int) < (xs.length : Int) := by omega
  clear h hr
  go_enter Tryz.func26, Tryz.ntmps26
  go_wp2_with fail
  go_ret
  exact ⟨rfl, aP _ _⟩
 ·rw [if_neg hl]
  have HB : Hid (Fr [] w (w.alloc (.cells #[.int .i64 vars] 3))) := aP _ _
  have NP : Hid ((w.alloc (.cells #[.int .i64 vars] 3)).cell? ⟨w.heap.size, 0, none⟩ = some (.int .i64 vars)) := (At.new w _ _).cell 0
  have KC := aa (fT (w.alloc (.cells #[.int .i64 vars] 3)) A c xs 54 #[.pointer (some ⟨w.heap.size, 0, none⟩)] (fI vars) Bz (h.keep HB.out) hr (by omega) (fun W hW x _ hx => EI W w.heap.size vars (hW.av NP.out) x hx))
  have LK : (xs.length : Int) ≤ (1024 : Int) := by omega
  obtain ⟨q, hq⟩ : ∃ q, xs.any (fI vars) = q := ⟨_, rfl⟩
  rw [hq] at KC ⊢
  clear h hr hq
  go_enter Tryz.func26, Tryz.ntmps26
  go_wp2_with fail
  refine KC.out.mono ?_
  rintro e w2 ⟨rfl, hf⟩
  have HF := aa (HB.out.ag hf)
  clear hf KC
  cases q with
  | true =>
   go_wp2_with fail
   go_ret
   exact ⟨rfl, HF.out⟩
  | false =>
   go_wp2_with fail
   go_ret
   exact ⟨rfl, HF.out⟩
theorem CT (W : World) (b a : Nat) (vars : Int) (hb : W.cell? ⟨b, 0, none⟩ = some (.pointer (some ⟨a, 0, none⟩))) (hc : W.cell? ⟨a, 2, none⟩ = some (.int .i64 vars)) (x : Int) (hx : dB x) :
  Calls Tryz.prog 75 #[.int .i64 x, .pointer (some ⟨b, 0, none⟩)] W fun e w' => e = .returned (.bool (fI vars x)) ∧ Fr [] W w' := by
 have HU := aa (@Rb x hx)
 have HO := aa (@Re x hx)
 unfold fI
 go_enter Tryz.func75, Tryz.ntmps75
 go_wp2_with fail
 all_goals (go_ret; refine ⟨?_, Fr.refl _ _⟩; first | rw [← HU.out (by assumption)] | rw [← HO.out (by omega)])
 all_goals first | (rw [Bool.or_comm]; rfl) | (rw [decide_eq_true (by assumption : vars < wrap64 (-x)), Bool.or_true]; rfl) | (rw [decide_eq_true (by assumption : vars < x), Bool.or_true]; rfl) | (rw [decide_eq_false (by omega : ¬ vars < wrap64 (-x)), Bool.or_false]; rfl) | (rw [decide_eq_false (by omega : ¬ vars < x), Bool.or_false]; rfl)
theorem Bx : ∀ args w, (callFunc 75 args).run Tryz.prog w = .ok (.enter 75 args) w := enters_of Tryz.func75 (by kernel_rfl) rfl
theorem Rd.J1 {w : World} {A : Option Addr} {us : List Int} {k : Nat} (h : Rd w A us) : Rd w A (us.take k) := by
 intro h0
 rw [bk] at h0
 obtain ⟨b, o, hA, hx⟩ := h (by omega)
 refine ⟨b, o, hA, fun j hj => ?_⟩
 rw [bk] at hj
 rw [hx j (by omega)]
 simp only [ae, List.getElem?_take, if_pos (show j < k by omega)]
theorem xK {x : Int} (h : dB x) : (x ≤ tv x ∧ -x ≤ tv x) ∨ tv x < 0 := by
 obtain ⟨h0, h1⟩ := h
 rcases kz x h0 with ⟨h2, h3⟩ | ⟨h2, h3, h4⟩ | ⟨h2, h3, h4⟩ <;> omega
namespace Sv
def bD (S : Sv) : Sv := { S with has := false, core := [] }
def tC (red : Bool) (budget : Int) (us : List Int) (D C : Nat) (Q : Sv → Int → Prop) (S : Sv) : Prop :=
 if (decide (budget < 1) || us.any (fI S.vars)) = true then Q S.bD 0
 else if S.bad = true then Q S.bD.cw 2
 else eB red budget us (fun S1 r => Q (S1.back 0) r) D C 64 0 S.bD.cw
theorem Ok.bD {S : Sv} {m : Nat} (ok : S.Ok m) : S.bD.Ok m := ⟨ok.vl, ok.tr, ok.hi, ok.hl, ok.ph, ok.wl, ok.ll, ok.wb, ok.wt, ok.lr, ok.ln, ok.lb, ok.hd, ok.rs⟩
end Sv
theorem aK.bD {w : World} {L : aH} {S : Sv} (h : aK w L S) :
  ∃ L', aK ((w.setCell ⟨L.a, 14, none⟩ (.bool false)).setCell ⟨L.a, 7, none⟩ (.slice none 0 0)).drew L' S.bD ∧ L.ext L' w ∧ Fr (L.own w) w ((w.setCell ⟨L.a, 14, none⟩ (.bool false)).setCell ⟨L.a, 7, none⟩ (.slice none 0 0)).drew := by
 obtain ⟨g1, f1⟩ := h.nE 14 (.bool false) { S with has := false } (by simp [m7]) ⟨rfl, rfl, rfl, rfl, rfl, rfl, rfl⟩
 obtain ⟨L', g2, e2, f2, _⟩ := g1.mY (F := []) (Ints.nil _) (Fr.refl _ _) (fun k hk => by cases hk) (fun k hk => by simp [ah] at hk)
 have hz : w.heap.size ≤ (w.setCell ⟨L.a, 14, none⟩ (.bool false)).heap.size := f1.size
 exact ⟨L', g2.keep (Fr.refl [] _).drew, ⟨e2.1, e2.2.1, fun k hk e => e2.2.2 k (aQ hk hz) e⟩, (aH.aI (aH.bX L w) f1 f2).drew⟩
theorem zZ (red : Bool) (EV : red = true → QI) (w : World) (L : aH) (S : Sv) (h : aK w L S) (ok : S.Ok 0) (A : Option Addr) (c : Nat) (us : List Int) (vN : B8 w L A us) (oP : Ra us) (sl : us.length ≤ c) (vo : us.length ≤ 1099511627776) (budget : Int) (D C : Nat) (Q : Sv → Int → Prop) (zq : S.used < 4611686018427387904) (hW : S.tC red budget us D C Q) :
  Calls Tryz.prog 39 #[.pointer (some ⟨L.a, 0, none⟩), .int .i64 budget, .slice A us.length c] w (B6 Q L w) := by
 obtain ⟨w1, ep⟩ : ∃ w1, w.alloc (.cells #[.pointer (some ⟨L.a, 0, none⟩)] 78) = w1 := ⟨_, rfl⟩
 have gu : Hid (Fr [] w w1) := by rw [← ep]; exact aP _ _
 have nJ : w1.cell? ⟨w.heap.size, 0, none⟩ = some (.pointer (some ⟨L.a, 0, none⟩)) := by rw [← ep]; exact (At.new w _ _).cell 0
 have zo := aa nJ
 obtain ⟨L1, vx⟩ : ∃ L1, L.seal w = L1 := ⟨_, rfl⟩
 have H1 : Hid (aK w1 L1 S) := by rw [← vx]; exact h.seal.keep gu.out
 have dV : Hid (L.ext L1 w) := by rw [← vx]; exact L.kq w
 have FV : (L1.cv w.heap.size).1 ≠ L1.id := by rw [← vx]; exact aH.gJ (ao _)
 have vc : Hid (w.heap.size ∉ L1.own w1) := aH.lo FV
 have agm := aa FV
 have dv : Hid (Fr (L.own w) w w1) := gu.out.mono (fun k hk => by cases hk)
 have oY : Hid (B8 w1 L1 A us) := ⟨vN.1.keep gu.out, fun h0 => yM dV.out (vN.2 h0) (fun k hk => vN.1.blk h0 k hk)⟩
 have kQ := aa ok
 have HW := aa hW
 have vz := aa oP
 have ZE := aa EV
 have KM := aa (lp w1 L1 S H1.out)
 have kj : L1.a = L.a := dV.out.1
 rw [kj] at KM
 have f14 := H1.out.obj.frozen 14
 have f7 := H1.out.obj.frozen 7
 obtain ⟨-, -, -, -, -, -, -, c7, -, -, -, -, -, -, JN⟩ := H1.out.cells
 rw [kj] at f14 f7 c7 JN
 obtain ⟨L2, h2, iW, cd⟩ := H1.out.bD
 rw [kj] at h2 cd
 have ZK := aa h2
 have Q3 := aa iW
 have Vu := aa cd
 clear h ok vN hW oP vx kj h2 iW cd EV FV
 go_enter Tryz.func39, Tryz.ntmps39
 go_upto_region 1 with fail
 clear ep
 go_wp2_with fail
 refine KM.out.mono ?_
 clear KM
 rintro e w2 ⟨rfl, rfl⟩
 go_upto_region 3 with fail
 go_region
 obtain ⟨w3, kW⟩ : ∃ w3, ((w1.setCell ⟨L.a, 14, none⟩ (.bool false)).setCell ⟨L.a, 7, none⟩ (.slice none 0 0)).drew = w3 := ⟨_, rfl⟩
 rw [kW] at ZK Vu ⊢
 have H3 := ZK
 have Fe := Vu
 have gF : Hid (L.ext L2 w) := aH.aM dV.out Q3.out dv.out.size
 have cR : Hid (Fr (L.own w) w w3) := aH.aI dV.out dv.out Fe.out
 have oX : Hid (B8 w3 L2 A us) := oY.out.step Q3.out Fe.out
 have sj := Fe.out.aZ vc.out zo.out
 have Fi := aa sj
 have QS : Hid ((L2.cv w.heap.size).1 ≠ L2.id) := fun e => agm.out (Q3.out.2.2 _ (by have := bt zo.out; exact this) (e.trans Q3.out.2.1))
 have oK := aa kQ.out.bD
 clear kW nJ c7 JN f7 f14 ZK Vu
 have Ta := HW.out
 unfold Sv.tC at Ta
 by_cases sT : budget < 1
 ·have hd : decide (budget < 1) = true := decide_eq_true sT
  rw [hd, Bool.true_or, if_pos rfl] at Ta
  have HQ := aa Ta
  clear Ta
  go_wp2_with fail
  go_region
  clear sj
  have FF : Hid (B6 Q L w (.returned (.int .i64 0)) w3.drew) := ⟨S.bD, 0, HQ.out, oK.out, rfl, L2, H3.out.keep (Fr.refl [] w3).drew, gF.out, cR.out.ag ((Fr.refl [] w3).drew.mono (fun k hk => by cases hk))⟩
  go_wp2_with fail
  go_ret
  exact FF.out
 ·have hd : decide (budget < 1) = false := decide_eq_false sT
  rw [hd, Bool.false_or] at Ta
  have HQ := aa Ta
  obtain ⟨-, -, c2, -⟩ := H3.out.cells
  rw [gF.out.1] at c2
  have kS := aa c2
  have fY : S.bD.vars = S.vars := rfl
  rw [fY] at c2
  have e2 := Ext.cell c2
  have eb := Ext.cell sj
  have zk := aa (fun u : Ext w3 => fT u.v A c us 75 #[.pointer (some ⟨w.heap.size, 0, none⟩)] (fI (S.vars : Int)) Bx (oX.out.1.keep u.fr) vz.out (by omega) (fun W hW x _ hx => CT W w.heap.size L.a (S.vars : Int) ((u.fr.ag hW).av Fi.out) ((u.fr.ag hW).av kS.out) x hx))
  clear Ta fY
  by_cases hk : 1024 < us.length
  ·have JE : (1024 : Int) < (us.length : Int) := by omega
   have YE : (1024 : Int) ≤ (c : Int) := by omega
   have hlen : (us.take 1024).length = 1024 := by rw [bk]; omega
   have sZ := aa (fun u : Ext w3 => il u.v (S.vars : Int) A c (us.take 1024) (oX.out.1.keep u.fr).J1 (Ra.sub vz.out (fun y hy => List.mem_of_mem_take hy)))
   have HP : Hid ((us.take 1024).any (fI (S.vars : Int)) = true → us.any (fI (S.vars : Int)) = true) := fun h5 => by
    rw [List.any_eq_true] at h5 ⊢
    obtain ⟨y, hy, h6⟩ := h5
    exact ⟨y, List.mem_of_mem_take hy, h6⟩
   unfold kK at sZ
   rw [hlen] at sZ
   simp only [Nat.lt_irrefl, if_false] at sZ
   obtain ⟨p, hp⟩ : ∃ p, (us.take 1024).any (fI (S.vars : Int)) = p := ⟨_, rfl⟩
   rw [hp] at sZ HP
   clear hp hlen hk
   cases p with
   | true =>
    have hq := HQ.out
    rw [if_pos (HP.out rfl)] at hq
    have HQ := aa hq
    simp only [if_true] at sZ
    clear hq HP
    go_wp2_with fail
    refine al (by kernel_rfl) (by kernel_rfl) ?_
    repeat (go_big_quiet_step (first | exact bN (sZ.out _) | exact bN (zk.out _)))
    refine wpQuiet_nil ?_
    rintro w4 ⟨u2, bJ⟩
    have bZ : Hid (Fr [] w3 w4) := bJ ▸ u2.fr
    clear bJ u2
    clear sj c2 e2 eb sZ zk
    have FF : Hid (B6 Q L w (.returned (.int .i64 0)) w4) := ⟨S.bD, 0, HQ.out, oK.out, rfl, L2, H3.out.keep bZ.out, gF.out, cR.out.ag (bZ.out.mono (fun k hk => by cases hk))⟩
    go_wp2_with fail
    go_ret
    exact FF.out
   | false =>
    simp only [df, if_false] at sZ
    obtain ⟨q, Lm⟩ : ∃ q, us.any (fI (S.vars : Int)) = q := ⟨_, rfl⟩
    rw [Lm] at zk
    have hq := HQ.out
    rw [Lm] at hq
    have HUQ := aa Lm
    cases q with
    | true =>
     rw [if_pos rfl] at hq
     have HQ := aa hq
     clear hq HP Lm
     go_wp2_with fail
     refine al (by kernel_rfl) (by kernel_rfl) ?_
     repeat (go_big_quiet_step (first | exact bN (sZ.out _) | exact bN (zk.out _)))
     refine wpQuiet_nil ?_
     rintro w4 ⟨u2, bJ⟩
     have bZ : Hid (Fr [] w3 w4) := bJ ▸ u2.fr
     clear bJ u2
     clear sj c2 e2 eb sZ zk
     have FF : Hid (B6 Q L w (.returned (.int .i64 0)) w4) := ⟨S.bD, 0, HQ.out, oK.out, rfl, L2, H3.out.keep bZ.out, gF.out, cR.out.ag (bZ.out.mono (fun k hk => by cases hk))⟩
     go_wp2_with fail
     go_ret
     exact FF.out
    | false =>
     rw [if_neg (by simp)] at hq
     have HQ := aa hq
     clear hq HP Lm
     go_wp2_with fail
     refine al (by kernel_rfl) (by kernel_rfl) ?_
     repeat (go_big_quiet_step (first | exact bN (sZ.out _) | exact bN (zk.out _)))
     refine wpQuiet_nil ?_
     rintro w4 ⟨u2, bJ⟩
     have bZ : Hid (Fr [] w3 w4) := bJ ▸ u2.fr
     clear bJ u2
     clear sj c2 e2 eb sZ zk
     have H4 := aa (H3.out.keep bZ.out)
     have gS : Hid (Fr (L.own w) w w4) := cR.out.ag (bZ.out.mono (fun k hk => by cases hk))
     have Nj := aa (oX.out.keep bZ.out)
     have Mc := bZ.out.av Fi.out
     obtain ⟨-, -, -, -, -, -, -, -, -, c9, -, -, -, BO, -⟩ := H4.out.cells
     rw [gF.out.1] at c9 BO
     have f9 := H4.out.obj.frozen 9
     rw [gF.out.1] at f9
     obtain ⟨uu, O5⟩ : ∃ uu, S.bD.used = uu := ⟨_, rfl⟩
     have adt : uu < 4611686018427387904 := by rw [← O5]; exact zq
     obtain ⟨g5, f5⟩ := H4.out.nE 9 (.int .i64 ((uu : Int) + 1)) S.bD.cw (by simp [m7, Sv.cw, O5]) ⟨rfl, rfl, rfl, rfl, rfl, rfl, rfl⟩
     rw [gF.out.1] at g5 f5
     rw [O5] at c9
     have S9 : IntKind.i64.wrap ((uu : Int) + 1) = (uu : Int) + 1 := IntWalk.i64_in _ (by omega)
     obtain ⟨bd, zu⟩ : ∃ bd, S.bad = bd := ⟨_, rfl⟩
     have Mf : S.bD.bad = bd := zu
     rw [Mf] at BO
     have hq := HQ.out
     rw [zu] at hq
     have Vg : Hid (w.heap.size ≠ L.a) := fun e => by
      have h5 := H4.out.t0
      rw [gF.out.1, ← e] at h5
      exact QS.out (by rw [h5])
     clear zu Mf HQ O5 zq
     go_upto_region 7 with fail
     obtain ⟨w5, nh⟩ : ∃ w5, w4.setCell ⟨L.a, 9, none⟩ (.int .i64 ((uu : Int) + 1)) = w5 := ⟨_, rfl⟩
     have Mb : w5.cell? ⟨w.heap.size, 0, none⟩ = some (.pointer (some ⟨L.a, 0, none⟩)) := by
      rw [← nh]
      exact ((Fr.refl [L.a] w4).setCell (p := ⟨L.a, 9, none⟩) (.inl (by simp)) _).aZ (by simpa using Vg.out) Mc
     have aet : w5.cell? ⟨L.a, 13, none⟩ = some (.bool bd) := by
      have h5 := g5.cells.2.2.2.2.2.2.2.2.2.2.2.2.2.1
      rw [gF.out.1, nh] at h5
      have h6 := H4.out.cells.2.2.2.2.2.2.2.2.2.2.2.2.2.1
      rw [gF.out.1, BO] at h6
      have h7 : bd = S.bD.bad := by simpa using h6
      rw [h7]
      exact h5
     rw [nh] at g5 f5 ⊢
     have H5 := aa g5
     have qj := aa (aH.aI gF.out gS.out f5)
     have xz := aa (Nj.out.step (aH.bX L2 w4) f5)
     have VC := aa Mb
     clear nh g5 f5 c9 BO f9 Mc S9
     cases bd with
     | true =>
      rw [if_pos rfl] at hq
      have FF : Hid (B6 Q L w (.returned (.int .i64 2)) w5) := ⟨S.bD.cw, 2, hq, oK.out.cw, rfl, L2, H5.out, gF.out, qj.out⟩
      clear hq
      go_wp2_with fail
      go_ret
      exact FF.out
     | false =>
      rw [if_neg (by simp)] at hq
      have KS := aa (pf red ZE.out w5 L2 S.bD.cw H5.out oK.out.cw A c us xz.out (fun x hx => by
       have h5 := HUQ.out
       rw [List.any_eq_false] at h5
       have h6 := h5 x hx
       unfold fI at h6
       simp only [Bool.or_eq_true, decide_eq_true_eq, not_or] at h6
       have h7 := (eN (p := dB)).1 vz.out x hx
       have h8 := xK h7
       show -(S.vars : Int) ≤ x ∧ x ≤ (S.vars : Int)
       omega) vo budget _ D C hq)
      rw [gF.out.1] at KS
      clear hq
      go_wp2_with fail
      refine KS.out.mono ?_
      clear KS
      rintro e w6 ⟨S6, r, XL, TL, rfl, L6, h6, LX, fZ⟩
      have H6 := aa h6
      have n9 := aa (aH.aM gF.out LX qj.out.size)
      have iG := aa (aH.aI gF.out qj.out fZ)
      have Uq := fZ.aZ (aH.lo QS.out) VC.out
      have HQ6 := aa XL
      have te := aa TL
      have KB := aa (lI w6 L6 S6 H6.out 0 TL 0 (by omega))
      rw [n9.out.1] at KB
      clear h6 LX fZ XL TL Mb
      go_wp2_with fail
      refine KB.out.mono ?_
      clear KB Uq
      rintro e w7 ⟨rfl, L7, h7, Bg, jl⟩
      have FF : Hid (B6 Q L w (.returned (.int .i64 r)) w7) := ⟨S6.back 0, r, HQ6.out, (te.out.back 0).1, rfl, L7, h7, aH.aM n9.out Bg iG.out.size, aH.aI n9.out iG.out jl⟩
      clear h7 Bg jl
      go_wp2_with fail
      go_ret
      exact FF.out
  ·have JE : (us.length : Int) ≤ (1024 : Int) := by omega
   have YE : (us.length : Int) ≤ (c : Int) := by omega
   have sZ := aa (fun u : Ext w3 => il u.v (S.vars : Int) A c us (oX.out.1.keep u.fr) vz.out)
   unfold kK at sZ
   rw [if_neg hk] at sZ
   have HP : Hid (us.any (fI (S.vars : Int)) = true → us.any (fI (S.vars : Int)) = true) := id
   obtain ⟨p, hp⟩ : ∃ p, us.any (fI (S.vars : Int)) = p := ⟨_, rfl⟩
   have HP : Hid (p = true → us.any (fI (S.vars : Int)) = true) := fun h5 => hp.trans h5
   rw [hp] at sZ
   clear hp hk
   cases p with
   | true =>
    have hq := HQ.out
    rw [if_pos (HP.out rfl)] at hq
    have HQ := aa hq
    simp only [if_true] at sZ
    clear hq HP
    go_wp2_with fail
    refine al (by kernel_rfl) (by kernel_rfl) ?_
    repeat (go_big_quiet_step (first | exact bN (sZ.out _) | exact bN (zk.out _)))
    refine wpQuiet_nil ?_
    rintro w4 ⟨u2, bJ⟩
    have bZ : Hid (Fr [] w3 w4) := bJ ▸ u2.fr
    clear bJ u2
    clear sj c2 e2 eb sZ zk
    have FF : Hid (B6 Q L w (.returned (.int .i64 0)) w4) := ⟨S.bD, 0, HQ.out, oK.out, rfl, L2, H3.out.keep bZ.out, gF.out, cR.out.ag (bZ.out.mono (fun k hk => by cases hk))⟩
    go_wp2_with fail
    go_ret
    exact FF.out
   | false =>
    simp only [df, if_false] at sZ
    obtain ⟨q, Lm⟩ : ∃ q, us.any (fI (S.vars : Int)) = q := ⟨_, rfl⟩
    rw [Lm] at zk
    have hq := HQ.out
    rw [Lm] at hq
    have HUQ := aa Lm
    cases q with
    | true =>
     rw [if_pos rfl] at hq
     have HQ := aa hq
     clear hq HP Lm
     go_wp2_with fail
     refine al (by kernel_rfl) (by kernel_rfl) ?_
     repeat (go_big_quiet_step (first | exact bN (sZ.out _) | exact bN (zk.out _)))
     refine wpQuiet_nil ?_
     rintro w4 ⟨u2, bJ⟩
     have bZ : Hid (Fr [] w3 w4) := bJ ▸ u2.fr
     clear bJ u2
     clear sj c2 e2 eb sZ zk
     have FF : Hid (B6 Q L w (.returned (.int .i64 0)) w4) := ⟨S.bD, 0, HQ.out, oK.out, rfl, L2, H3.out.keep bZ.out, gF.out, cR.out.ag (bZ.out.mono (fun k hk => by cases hk))⟩
     go_wp2_with fail
     go_ret
     exact FF.out
    | false =>
     rw [if_neg (by simp)] at hq
     have HQ := aa hq
     clear hq HP Lm
     go_wp2_with fail
     refine al (by kernel_rfl) (by kernel_rfl) ?_
     repeat (go_big_quiet_step (first | exact bN (sZ.out _) | exact bN (zk.out _)))
     refine wpQuiet_nil ?_
     rintro w4 ⟨u2, bJ⟩
     have bZ : Hid (Fr [] w3 w4) := bJ ▸ u2.fr
     clear bJ u2
     clear sj c2 e2 eb sZ zk
     have H4 := aa (H3.out.keep bZ.out)
     have gS : Hid (Fr (L.own w) w w4) := cR.out.ag (bZ.out.mono (fun k hk => by cases hk))
     have Nj := aa (oX.out.keep bZ.out)
     have Mc := bZ.out.av Fi.out
     obtain ⟨-, -, -, -, -, -, -, -, -, c9, -, -, -, BO, -⟩ := H4.out.cells
     rw [gF.out.1] at c9 BO
     have f9 := H4.out.obj.frozen 9
     rw [gF.out.1] at f9
     obtain ⟨uu, O5⟩ : ∃ uu, S.bD.used = uu := ⟨_, rfl⟩
     have adt : uu < 4611686018427387904 := by rw [← O5]; exact zq
     obtain ⟨g5, f5⟩ := H4.out.nE 9 (.int .i64 ((uu : Int) + 1)) S.bD.cw (by simp [m7, Sv.cw, O5]) ⟨rfl, rfl, rfl, rfl, rfl, rfl, rfl⟩
     rw [gF.out.1] at g5 f5
     rw [O5] at c9
     have S9 : IntKind.i64.wrap ((uu : Int) + 1) = (uu : Int) + 1 := IntWalk.i64_in _ (by omega)
     obtain ⟨bd, zu⟩ : ∃ bd, S.bad = bd := ⟨_, rfl⟩
     have Mf : S.bD.bad = bd := zu
     rw [Mf] at BO
     have hq := HQ.out
     rw [zu] at hq
     have Vg : Hid (w.heap.size ≠ L.a) := fun e => by
      have h5 := H4.out.t0
      rw [gF.out.1, ← e] at h5
      exact QS.out (by rw [h5])
     clear zu Mf HQ O5 zq
     go_upto_region 7 with fail
     obtain ⟨w5, nh⟩ : ∃ w5, w4.setCell ⟨L.a, 9, none⟩ (.int .i64 ((uu : Int) + 1)) = w5 := ⟨_, rfl⟩
     have Mb : w5.cell? ⟨w.heap.size, 0, none⟩ = some (.pointer (some ⟨L.a, 0, none⟩)) := by
      rw [← nh]
      exact ((Fr.refl [L.a] w4).setCell (p := ⟨L.a, 9, none⟩) (.inl (by simp)) _).aZ (by simpa using Vg.out) Mc
     have aet : w5.cell? ⟨L.a, 13, none⟩ = some (.bool bd) := by
      have h5 := g5.cells.2.2.2.2.2.2.2.2.2.2.2.2.2.1
      rw [gF.out.1, nh] at h5
      have h6 := H4.out.cells.2.2.2.2.2.2.2.2.2.2.2.2.2.1
      rw [gF.out.1, BO] at h6
      have h7 : bd = S.bD.bad := by simpa using h6
      rw [h7]
      exact h5
     rw [nh] at g5 f5 ⊢
     have H5 := aa g5
     have qj := aa (aH.aI gF.out gS.out f5)
     have xz := aa (Nj.out.step (aH.bX L2 w4) f5)
     have VC := aa Mb
     clear nh g5 f5 c9 BO f9 Mc S9
     cases bd with
     | true =>
      rw [if_pos rfl] at hq
      have FF : Hid (B6 Q L w (.returned (.int .i64 2)) w5) := ⟨S.bD.cw, 2, hq, oK.out.cw, rfl, L2, H5.out, gF.out, qj.out⟩
      clear hq
      go_wp2_with fail
      go_ret
      exact FF.out
     | false =>
      rw [if_neg (by simp)] at hq
      have KS := aa (pf red ZE.out w5 L2 S.bD.cw H5.out oK.out.cw A c us xz.out (fun x hx => by
       have h5 := HUQ.out
       rw [List.any_eq_false] at h5
       have h6 := h5 x hx
       unfold fI at h6
       simp only [Bool.or_eq_true, decide_eq_true_eq, not_or] at h6
       have h7 := (eN (p := dB)).1 vz.out x hx
       have h8 := xK h7
       show -(S.vars : Int) ≤ x ∧ x ≤ (S.vars : Int)
       omega) vo budget _ D C hq)
      rw [gF.out.1] at KS
      clear hq
      go_wp2_with fail
      refine KS.out.mono ?_
      clear KS
      rintro e w6 ⟨S6, r, XL, TL, rfl, L6, h6, LX, fZ⟩
      have H6 := aa h6
      have n9 := aa (aH.aM gF.out LX qj.out.size)
      have iG := aa (aH.aI gF.out qj.out fZ)
      have Uq := fZ.aZ (aH.lo QS.out) VC.out
      have HQ6 := aa XL
      have te := aa TL
      have KB := aa (lI w6 L6 S6 H6.out 0 TL 0 (by omega))
      rw [n9.out.1] at KB
      clear h6 LX fZ XL TL Mb
      go_wp2_with fail
      refine KB.out.mono ?_
      clear KB Uq
      rintro e w7 ⟨rfl, L7, h7, Bg, jl⟩
      have FF : Hid (B6 Q L w (.returned (.int .i64 r)) w7) := ⟨S6.back 0, r, HQ6.out, (te.out.back 0).1, rfl, L7, h7, aH.aM n9.out Bg iG.out.size, aH.aI n9.out iG.out jl⟩
      clear h7 Bg jl
      go_wp2_with fail
      go_ret
      exact FF.out
theorem Fo (z : Value) (m : Nat) : (Builtin.zeroCells #[z] m).toList = List.replicate m z := by
 apply List.ext_getElem?
 intro j
 simp only [Builtin.zeroCells, Array.toList_map, bh]
 by_cases h : j < m
 ·simp [h, Nat.mod_one]
 ·simp [h]
theorem JU (z : Value) (m : Nat) : Builtin.zeroCells #[z] m = (List.replicate m z).toArray := by
 rw [← Fo, Array.toArray_toList]
theorem kr (w : World) (t ti ty e : TypeId) (z : Value) (bytes : Nat) (ht : Tryz.prog.underlying t = some (.slice e)) (Te : Tryz.prog.underlying ti = some (.int .i64)) (hi : (Tryz.prog.info? e).map (fun i => (i.zero, i.size, i.bytes)) = some (some z, 1, bytes)) (zp : z.cells = #[z]) (h1z : z.oneCell' = true)
  (A : Option Addr) (c n : Nat) (xs : List Value) (dj : w.ownsRow 0 e 1 (.slice A n c) n xs) (m : Nat) (JL : n + m ≤ maxLen) (iQ : (n + m) * bytes ≤ 140737488355328) (hm : (m : Int) ≤ 9223372036854775807) :
  ∃ A' cap w', (Builtin.append_ #[t, ti] ty #[.slice A n c, .int .i64 m]).run Tryz.prog w = .ok (.slice A' (n + m) cap) w' ∧
   w'.ownsRow 0 e 1 (.slice A' (n + m) cap) (n + m) (xs ++ List.replicate m z) ∧ Fr (ah A) w w' ∧ (∀ k, k ∈ ah A' → k ∈ ah A ∨ w.heap.size ≤ k) := by
 obtain ⟨i, hi, hz, xf, hby⟩ := info_parts hi
 have hw : IntKind.i64.wrap (m : Int) = m := IntWalk.i64_in _ (by omega)
 have Jv : IntKind.i64.wrap 0 = 0 := by decide
 have TO : ¬ ((m : Int) < 0) := by omega
 have vP : (m : Int) * (bytes : Int) ≤ 281474976710656 := by
  have : m * bytes ≤ (n + m) * bytes := Nat.mul_le_mul_right _ (by omega)
  have h2 : ((m * bytes : Nat) : Int) ≤ 281474976710656 := by omega
  simpa using h2
 have TU : ¬ (281474976710656 < (m : Int) * (bytes : Int)) := by omega
 have uf : n + m ≤ 9223372036854775807 := by simp only [maxLen] at JL; omega
 have hlen : (xs ++ List.replicate m z).length = (n + m) * 1 := by rw [ai, dj.1, a7]; omega
 have grown : ∀ (old : Nat), old < n + m → ∀ (S : List Nat),
   (w.drew.alloc (.cells (xs.toArray ++ (List.replicate m z).toArray ++ Builtin.zeroCells #[z] (grownCap w (n + m) old e - (n + m))) e)).ownsRow 0 e 1
    (.slice (some ⟨w.heap.size, 0, none⟩) (n + m) (grownCap w (n + m) old e)) (n + m) (xs ++ List.replicate m z) ∧
   Fr S w (w.drew.alloc (.cells (xs.toArray ++ (List.replicate m z).toArray ++ Builtin.zeroCells #[z] (grownCap w (n + m) old e - (n + m))) e)) := by
  intro old ho S
  have JH := grownCap_ge w (n + m) old e
  have Bj : grownCap w (n + m) old e ≤ maxLen := grownCap_le_maxLen w (n + m) old e JL
  refine ⟨⟨hlen, .inr ⟨w.heap.size, _, _, rfl, bV _, heap_alloc_new w.drew _, JH, Bj, ?_, ?_⟩⟩, ((Fr.refl S w).drew).alloc _⟩
  ·have hx := dj.1
   simp only [Array.size_append, List.size_toArray, size_zeroCells, a7, hx]
   simp
   omega
  ·simp only [Array.toList_append, List.append_assoc]
   rw [← List.append_assoc, ← hlen]
   exact List.take_left
 rcases dj.2 with ⟨hv, rfl⟩ | ⟨g, cap, cur, hv, Me, hg, qf, Bj, vw, Rx⟩
 ·simp only [Value.slice.injEq, true_and] at hv
  obtain ⟨rfl, rfl⟩ := hv
  have hx : xs = [] := a6 (by simpa using dj.1)
  subst hx
  by_cases vp : m = 0
  ·subst vp
   refine ⟨none, 0, w, ?_, World.ownsRow_nil w 0 e 1, Fr.refl _ _, fun k hk => by simp [ah] at hk⟩
   simp [Builtin.append_, run_underlying ht, run_underlying Te, sizeOf, typeInfo, hi, asInt, asIntOf, Jv]
  ·have JG := grown 0 (by omega) (ah none)
   simp only [cZ, List.nil_append] at JG ⊢
   refine ⟨_, _, _, ?_, JG.1, JG.2, fun k hk => .inr (by simp [ah] at hk; omega)⟩
   have Mt : ¬ (281474976710656 < Builtin.nextslicecap m 0 * bytes) := by
    rw [nextslicecap_zero (by omega)]
    have := iQ
    simp only [cZ] at this
    omega
   have Uz : ¬ (9223372036854775807 < (m : Int)) := by omega
   simp [Builtin.append_, run_underlying ht, run_underlying Te, sizeOf, typeInfo, zeroValue, hi, hz, asInt, asIntOf, xf, hby, hw, TO, TU, vp, Uz, Mt, Question.forced, run_firstCells_none, newRow, grownCap, zp, JU]
 ·simp only [Value.slice.injEq, true_and] at hv
  obtain ⟨rfl, rfl⟩ := hv
  by_cases FT : n + m ≤ c
  ·have uj : n * 1 + (List.replicate m z).length ≤ cur.size := by rw [vw, a7]; omega
   have ni := run_storeCells_at Tryz.prog g (n * 1) e (List.replicate m z) 0 cur w hg (by simpa using uj) (fun u hu => by rw [List.mem_replicate] at hu; rw [hu.2]; exact h1z)
   simp only [Nat.add_zero] at ni
   refine ⟨some ⟨g, 0, none⟩, c, w.setRow g (cur.toList.take (n * 1) ++ List.replicate m z ++ cur.toList.drop (n * 1 + (List.replicate m z).length)).toArray, ?_, ⟨hlen, .inr ⟨g, c, _, rfl, Me, setRow_heap w g cur _ e _ hg, FT, Bj, ?_, ?_⟩⟩, ?_, fun k hk => .inl hk⟩
   ·by_cases vp : m = 0
    ·subst vp
     simp only [List.replicate_zero] at ni ⊢
     have gU : n ≤ c := FT
     simp [Builtin.append_, run_underlying ht, run_underlying Te, sizeOf, typeInfo, hi, asInt, asIntOf, Jv, gU, Addr.add_lit]
     simp only [Nat.mul_one] at ni
     simp [xf, ni]
    ·simp [Builtin.append_, run_underlying ht, run_underlying Te, sizeOf, typeInfo, zeroValue, hi, hz, asInt, asIntOf, xf, hby, hw, TO, TU, vp, FT, Addr.add_lit, zp, Fo]
     simp only [Nat.mul_one] at ni
     first | exact ni | (rw [ni]; simp) | simp [ni]
   ·simp only [List.size_toArray, ai, bk, List.length_drop, Array.length_toList, a7]
    omega
   ·rw [Rx, ← hlen]
    exact List.take_left
   ·exact ⟨rfl, rfl, rfl, by simp, fun k _ hk => setRow_other w g k _ (fun e => hk (by simp [ah, e]))⟩
  ·have holds : ∀ j u, xs[j]? = some u → w.cell? ((⟨g, 0, none⟩ : Addr).add j) = some u := dj.cells (g := g) rfl
   have JG := grown c (by omega) (ah (some (⟨g, 0, none⟩ : Addr)))
   refine ⟨_, _, _, ?_, JG.1, JG.2, fun k hk => .inr (by simp [ah] at hk; omega)⟩
   have vp : m ≠ 0 := by omega
   have F2 := run_firstCells_some (P := Tryz.prog) w.drew 1 n ⟨g, 0, none⟩ n c xs (by rw [dj.1]) (by simpa using holds)
   have Uz : ¬ (9223372036854775807 < ((n : Int) + (m : Int))) := by omega
   have Mt : ¬ (281474976710656 < Builtin.nextslicecap (n + m) c * bytes) := by
    have := growslice_fits (need := n + m) (old := c) (bytes := bytes) (by omega) iQ
    omega
   simp [Builtin.append_, run_underlying ht, run_underlying Te, sizeOf, typeInfo, zeroValue, hi, hz, asInt, asIntOf, xf, hby, hw, TO, TU, vp, FT, Uz, Mt, Question.forced, F2, newRow, grownCap, zp, JU]
   try rw [hby] at Mt
   try simp [Mt]
theorem aK.WL {w w1 : World} {L : aH} {S : Sv} (h : aK w L S) {A' : Option Addr} {c' : Nat} {F : List Nat} {ls : List Bool} (hi : Bools w1 A' c' ls) (hf : Fr F w w1) (hF : ∀ k, k ∈ F → k < w.heap.size → L.cv k = (L.id, 5, 0))
  (hA : ∀ k, k ∈ ah A' → (k < w.heap.size ∧ L.cv k = (L.id, 5, 0)) ∨ w.heap.size ≤ k) :
  ∃ L', aK (w1.setCell ⟨L.a, 5, none⟩ (.slice A' ls.length c')) L' { S with phase := ls } ∧ L.ext L' w ∧ Fr (L.own w) w (w1.setCell ⟨L.a, 5, none⟩ (.slice A' ls.length c')) := by
 have cd : Fr (L.a :: F) w (w1.setCell ⟨L.a, 5, none⟩ (.slice A' ls.length c')) := (hf.mono (fun k hk => .inl (by simp [hk]))).setCell (.inl (by simp)) _
 have zw : ∀ k, k ∈ L.a :: F → k < w.heap.size → ∃ t, (t = (5, 0) ∨ t = (0, 0)) ∧ L.cv k = (L.id, t) := by
  intro k hk hl
  rcases ay.1 hk with rfl | hk
  ·exact ⟨_, .inr rfl, h.t0⟩
  ·exact ⟨_, .inl rfl, hF k hk hl⟩
 have o := h.off (P := fun t => t = (5, 0) ∨ t = (0, 0)) cd zw
 have o1 := h.off (P := (· = (5, 0))) hf (fun k hk hl => ⟨_, rfl, hF k hk hl⟩)
 have g := h.tags (5, 0)
 have dN : L.a ∉ ah A' := fun hk => by
  rcases hA _ hk with ⟨_, h2⟩ | h2
  ·rw [h.t0] at h2; simp at h2
  ·have := h.obj.lt; omega
 refine ⟨{ L with pA := A', pC := c', cv := L.re w (5, 0) }, ⟨?_, o.tr (by simp), o.hp (by simp), h.gy, h.yP, h.yN, o.sG (by simp), o.rws (by simp), ?_, o.vh (by simp), o.rV (by simp), fun n hn => o.nK n hn (by simp), fun c hc => o.pN c hc (by simp),
  g.t0, g.t1, g.t2, g.t3, g.t4, fun k hk => aH.lj (hA k hk), g.t6, g.t7, g.t8, g.t9⟩, ⟨rfl, rfl, fun k hk e => aH.mE hk e⟩, aH.fE cd (fun k hk hl => by obtain ⟨t, _, e⟩ := zw k hk hl; rw [e])⟩
 ·have := (o1.obj (by simp)).cV 5 (.slice A' ls.length c')
  simpa [m7] using this
 ·unfold Bools at hi ⊢
  exact dX hi ((Fr.refl [L.a] w1).setCell (.inl (by simp)) _) (fun k hk hm => by simp at hm; subst hm; exact dN hk)
theorem aK.Wz {w w1 : World} {L : aH} {S : Sv} (h : aK w L S) {A' : Option Addr} {c' m : Nat} {F : List Nat} (hi : qa w1 A' c' (L.ws ++ List.replicate m ⟨none, 0, []⟩)) (hf : Fr F w w1) (hF : ∀ k, k ∈ F → k < w.heap.size → L.cv k = (L.id, 4, 0))
  (hA : ∀ k, k ∈ ah A' → (k < w.heap.size ∧ L.cv k = (L.id, 4, 0)) ∨ w.heap.size ≤ k) :
  ∃ L', aK (w1.setCell ⟨L.a, 4, none⟩ (.slice A' (L.ws.length + m) c')) L' { S with watch := S.watch ++ List.replicate m [] } ∧ L.ext L' w ∧ Fr (L.own w) w (w1.setCell ⟨L.a, 4, none⟩ (.slice A' (L.ws.length + m) c')) := by
 have cd : Fr (L.a :: F) w (w1.setCell ⟨L.a, 4, none⟩ (.slice A' (L.ws.length + m) c')) := (hf.mono (fun k hk => .inl (by simp [hk]))).setCell (.inl (by simp)) _
 have zw : ∀ k, k ∈ L.a :: F → k < w.heap.size → ∃ t, (t = (4, 0) ∨ t = (0, 0)) ∧ L.cv k = (L.id, t) := by
  intro k hk hl
  rcases ay.1 hk with rfl | hk
  ·exact ⟨_, .inr rfl, h.t0⟩
  ·exact ⟨_, .inl rfl, hF k hk hl⟩
 have o := h.off (P := fun t => t = (4, 0) ∨ t = (0, 0)) cd zw
 have o1 := h.off (P := (· = (4, 0))) hf (fun k hk hl => ⟨_, rfl, hF k hk hl⟩)
 have g := h.tags (4, 0)
 have dN : L.a ∉ ah A' := fun hk => by
  rcases hA _ hk with ⟨_, h2⟩ | h2
  ·rw [h.t0] at h2; simp at h2
  ·have := h.obj.lt; omega
 have nI : ∀ j : Nat, j < L.ws.length + m → (j < L.ws.length ∧ (L.ws ++ List.replicate m (⟨none, 0, []⟩ : Wl))[j]! = L.ws[j]!) ∨ (L.ws ++ List.replicate m (⟨none, 0, []⟩ : Wl))[j]! = ⟨none, 0, []⟩ := fun j hj => by
  by_cases e : j < L.ws.length
  ·left
   refine ⟨e, ?_⟩
   simp [ae, eS e]
  ·right
   rw [ae, List.getElem?_append_right (by omega), List.getElem?_replicate, if_pos (by omega)]
   rfl
 refine ⟨{ L with wA := A', wC := c', ws := L.ws ++ List.replicate m ⟨none, 0, []⟩, cv := L.re w (4, 0) }, ⟨?_, o.tr (by simp), o.hp (by simp), h.gy, h.yP, ?_, o.sG (by simp), ?_, o.sE (by simp), o.vh (by simp), o.rV (by simp), fun n hn => o.nK n hn (by simp), fun c hc => ?_,
  g.t0, g.t1, g.t2, g.t3, fun k hk => aH.lj (hA k hk), g.t5, g.t6, g.t7, g.t8, fun c hc k hk => ?_⟩, ⟨rfl, rfl, fun k hk e => aH.mE hk e⟩, aH.fE cd (fun k hk hl => by obtain ⟨t, _, e⟩ := zw k hk hl; rw [e])⟩
 ·have := (o1.obj (by simp)).cV 4 (.slice A' (L.ws.length + m) c')
  simpa [m7] using this
 ·simp only [bP, List.map_replicate]
  rw [h.yN]
 ·unfold qa at hi ⊢
  exact dX hi ((Fr.refl [L.a] w1).setCell (.inl (by simp)) _) (fun k hk hm => by simp at hm; subst hm; exact dN hk)
 ·simp only [ai, a7] at hc
  simp only
  rcases nI c hc with ⟨h1, h2⟩ | h2
  ·rw [h2]
   exact o.pN c h1 (by simp)
  ·rw [h2]
   exact Ints.nil _
 ·simp only [ai, a7] at hc
  simp only at hk
  rcases nI c hc with ⟨h1, h2⟩ | h2
  ·rw [h2] at hk
   exact g.t9 c h1 k hk
  ·rw [h2] at hk
   simp [ah] at hk
namespace Sv
theorem wP : ∀ (n : Nat) (v : Int) (H : Hp), HI H → HI (jv n v H) ∧ (jv n v H).at_.length = H.at_.length
 | 0, v, H, h => ⟨h, rfl⟩
 | n + 1, v, H, h => by
  have h1 := h.io v
  have h2 := wP n (v + 1) _ h1.1
  exact ⟨h2.1, h2.2.trans h1.2⟩
theorem xn {H : Hp} {v n : Nat} (h : H.at_.length = v + 1) (hb : v + n ≤ 262143) : H.dZ n = H.growBy n := by
 unfold Hp.dZ
 have e : (jC H.at_.length n - H.at_.length).toNat = n := by
  unfold jC
  rw [h]
  omega
 rw [e]
theorem Ok.grow {S : Sv} (ok : S.Ok 0) (n : Nat) (hb : S.vars + n ≤ 262143) : (S.grow n).Ok 0 := by
 obtain ⟨R, hR⟩ := ok.tr
 have hg := hR.grow n (by omega)
 have hh : HI (S.H.dZ n) ∧ (S.H.dZ n).at_.length = S.vars + n + 1 := by
  rw [xn ok.hl hb]
  refine ⟨ok.hi.grow n, ?_⟩
  have := ok.hl
  simp only [Hp.growBy, ai, a7]
  omega
 have hp := wP n ((S.vars : Int) + 1) _ hh.1
 have hw : ∀ c : Nat, (S.watch ++ List.replicate (2 * n) ([] : List Nat))[c]! = S.watch[c]! := fun c => by
  simp only [ae]
  by_cases e : c < S.watch.length
  ·rw [eS e]
  ·rw [List.getElem?_append_right (by omega), List.getElem?_replicate, List.getElem?_eq_none (l := S.watch) (by omega)]
   split <;> rfl
 have e0 : (S.grow n).vars = S.vars + n := rfl
 have e1 : (S.grow n).T = S.T.dZ n := rfl
 have e2 : (S.grow n).H = jv n ((S.vars : Int) + 1) (S.H.dZ n) := rfl
 have e3 : (S.grow n).list = S.list := rfl
 refine ⟨by rw [e0]; exact hb, ⟨R, ?_⟩, by rw [e2]; exact hp.1, by rw [e2, e0]; exact hp.2.trans hh.2, ?_, ?_, by rw [e3]; exact ok.ll, fun c k hk => ?_, ?_, fun j x hx => ?_, fun j => ok.ln j, fun j => ok.lb j, ?_, fun v => ?_⟩
 ·rw [e0, e1]; exact hg
 ·show (S.phase ++ List.replicate n false).length = S.vars + n + 1
  have := ok.ph
  simp
  omega
 ·show (S.watch ++ List.replicate (2 * n) []).length = 2 * (S.vars + n) + 2
  have := ok.wl
  simp
  omega
 ·have e : k ∈ (S.watch ++ List.replicate (2 * n) ([] : List Nat))[c]! := hk
  rw [hw] at e
  exact ok.wb c k e
 ·show ((S.watch ++ List.replicate (2 * n) []).map List.length).sum + 0 ≤ _
  have := ok.wt
  simp
  exact this
 ·have := ok.lr j x hx
  show x ≠ 0 ∧ -((S.vars + n : Nat) : Int) ≤ x ∧ x ≤ ((S.vars + n : Nat) : Int)
  omega
 ·exact ok.hd
 ·have := ok.rs v
  rw [hR.eD] at this
  rw [e1, e3]
  rw [hg.eD]
  exact this
end Sv
theorem Au : (Tryz.prog.info? 22).map (fun i => (i.zero, i.size, i.bytes)) = some (some (.slice none 0 0), 1, 24) := by kernel_rfl
theorem iV (w : World) {ops : Array Oper} {rest : List Oper} {o : Oper} {a : Act} {Q : Exit → Act → World → Prop} (ui : o.guard = none) (s x : Operand) (t ti e : TypeId)
  (ho : o.op = .call { callee := .builtin .append, args := #[s, x], argTypes := #[t, ti] }) (z : Value) (bytes : Nat) (ht : Tryz.prog.underlying t = some (.slice e)) (Te : Tryz.prog.underlying ti = some (.int .i64)) (hi : (Tryz.prog.info? e).map (fun i => (i.zero, i.size, i.bytes)) = some (some z, 1, bytes)) (zp : z.cells = #[z]) (h1z : z.oneCell' = true)
  (A : Option Addr) (c n : Nat) (hs : a.eval s = .slice A n c) (xs : List Value) (dj : w.ownsRow 0 e 1 (.slice A n c) n xs) (m : Nat) (v : Int) (hv : v = m) (hx : a.eval x = .int .i64 v) (JL : n + m ≤ maxLen) (iQ : (n + m) * bytes ≤ 140737488355328) (hm : (m : Int) ≤ 9223372036854775807)
  (h : ∀ A' cap w', w'.ownsRow 0 e 1 (.slice A' (n + m) cap) (n + m) (xs ++ List.replicate m z) → Fr (ah A) w w' → (∀ k, k ∈ ah A' → k ∈ ah A ∨ w.heap.size ≤ k) → wpList Tryz.prog ops Q rest (a.put o.dst (.slice A' (n + m) cap)) w') :
  wpList Tryz.prog ops Q (o :: rest) a w := by
 subst hv
 refine wpList_plain ui fun K hK => ?_
 obtain ⟨A', cap, w', hr, h2, h3, h4⟩ := kr w t ti o.type e z bytes ht Te hi zp h1z A c n xs dj m JL iQ hm
 unfold Oper.wp execOp
 simp only [ho, resolve, invoke, builtin, Sem.run_bind, Sem.run_pure, Result.andThen_ok, List.map_toArray, dW, fX, hs, hx, hr]
 exact hK _ _ (h A' cap w' h2 h3 h4)
theorem EB (w : World) (L : aH) (S : Sv) (h : aK w L S) (ok : S.Ok 0) (n : Nat) (hb : S.vars + n ≤ 262143) :
  Calls Tryz.prog 99 #[.pointer (some ⟨L.a, 0, none⟩), .int .i64 n] w (me (.tuple #[]) (S.grow n) L w) := by
 have kQ := aa ok
 have NR := aa ok.hl
 have HPH := aa ok.ph
 have HWL := aa ok.wl
 have qh : 0 < S.T.cells.length ∧ S.T.cells.length ≤ 262145 := by
  obtain ⟨R, hR⟩ := ok.tr
  rw [hR.size]
  omega
 obtain ⟨c0, c1, -⟩ := h.cells
 have KT := aa (tw w L.tL S.T h.tr qh.1 qh.2 (n : Int))
 have HH := aa h
 clear h ok
 go_enter Tryz.func99, Tryz.ntmps99
 go_wp2_with fail
 refine KT.out.mono ?_
 clear KT c0 c1
 rintro e w1 ⟨rfl, tL, ht, hte, htf⟩
 obtain ⟨L1, h1, sQ, cE⟩ := HH.out.tz ht hte htf
 have H1 := aa h1
 have dV := aa sQ
 have dv := aa cE
 have c1 := h1.cells.2.1
 rw [dV.out.1] at c1
 have KH := aa (xl w1 L1.hL S.H h1.hp h1.gy (n : Int) (by have := NR.out; omega))
 clear h1 sQ cE ht hte htf HH
 go_wp2_with fail
 refine KH.out.mono ?_
 clear KH c1
 rintro e w2 ⟨rfl, hL, hh, hhe, hhf⟩
 obtain ⟨L2, h2, iW, cd⟩ := H1.out.heap hh hhe hhf
 obtain ⟨H0, hH0⟩ : ∃ H0, S.H.dZ (n : Int) = H0 := ⟨_, rfl⟩
 obtain ⟨T0, dd⟩ : ∃ T0, S.T.dZ (n : Int) = T0 := ⟨_, rfl⟩
 rw [hH0] at h2
 rw [dd] at h2
 have H2 := aa h2
 have cL := aa (aH.aM dV.out iW dv.out.size)
 have cJ := aa (aH.aI dV.out dv.out cd)
 have HT0 := aa dd
 have HH0 := aa hH0
 have c5 := h2.cells.2.2.2.2.2.1
 rw [cL.out.1] at c5
 have Su := aa c5
 have f5 := h2.obj.frozen 5
 rw [cL.out.1] at f5
 have qj := aa f5
 have Sk : Hid (L.a ∉ ah L2.pA) := fun hm => by
  have e1 := H2.out.t5 _ hm
  rw [← cL.out.1, H2.out.t0] at e1
  simp at e1
 have RF : S.phase.length + n ≤ 262144 := by have := HPH.out; omega
 have HPN := aa RF
 clear h2 iW cd hh hhe hhf H1 dV dv dd hH0 RF f5
 go_upto_region 3 with (at_builtin; (refine iV _ rfl _ _ 110 3 4 rfl (.bool false) 1 Tryz.underlying110 Tryz.underlying3 Av rfl rfl L2.pA L2.pC S.phase.length rfl (S.phase.map Value.bool) H2.out.sE n _ rfl rfl (by have := HPN.out; unfold maxLen; omega) (by have := HPN.out; omega) (by omega) ?_; intro A5 UF w3 sO dK JI; have s5 := dK.aZ Sk.out Su.out; have fz5 := (World.frozen?_of_block (dK.block L.a (bt Su.out) Sk.out)).trans qj.out))
 -- SH acg
 obtain ⟨w4, Cq⟩ : ∃ w4, w3.setCell ⟨L.a, 5, none⟩ (.slice A5 (S.phase.length + n) UF) = w4 := ⟨_, rfl⟩
 have LR : Bools w3 A5 UF (S.phase ++ List.replicate n false) := by
  unfold Bools
  rw [ai, a7, bP, List.map_replicate]
  exact sO
 obtain ⟨L4, h4, RT, eF⟩ := H2.out.WL LR dK (fun k hk _ => H2.out.t5 k hk) (fun k hk => by
  rcases JI k hk with h5 | h5
  ·exact .inl ⟨di H2.out.sE k h5, H2.out.t5 k h5⟩
  ·exact .inr h5)
 rw [cL.out.1, ai, a7, Cq] at h4 eF
 have H4 := aa h4
 have tf := aa (aH.aM cL.out RT cJ.out.size)
 have gS := aa (aH.aI cL.out cJ.out eF)
 have c4 := h4.cells.2.2.2.2.1
 rw [tf.out.1] at c4
 have Jn := aa c4
 have f4 := h4.obj.frozen 4
 rw [tf.out.1] at f4
 have ZN := aa f4
 have wv : Hid (L.a ∉ ah L4.wA) := fun hm => by
  have e1 := H4.out.t4 _ hm
  rw [← tf.out.1, H4.out.t0] at e1
  simp at e1
 have JA : L4.ws.length = S.watch.length := H4.out.pE
 have E9 := aa JA
 have kD : IntKind.i64.wrap (2 * (n : Int)) = 2 * (n : Int) := IntWalk.i64_in _ (by omega)
 have h2n : 2 * (n : Int) = ((2 * n : Nat) : Int) := by omega
 have H2N := aa h2n
 have fd : L4.ws.length + 2 * n ≤ 600000 := by have := HWL.out; omega
 have Nc := aa fd
 clear h4 RT eF H2 cL cJ sO LR dK JI s5 fz5 c5 f4 JA h2n fd Su qj Sk
 rw [Cq]
 clear Cq
 go_upto_region 4 with (at_builtin; (refine iV _ rfl _ _ 28 3 22 rfl (.slice none 0 0) 24 Tryz.underlying28 Tryz.underlying3 Au rfl rfl L4.wA L4.wC L4.ws.length rfl (L4.ws.map Wl.val) H4.out.rws (2 * n) (2 * (n : Int)) H2N.out rfl (by have := Nc.out; unfold maxLen; omega) (by have := Nc.out; omega) (by have := Nc.out; omega) ?_; intro A6 YZ w5 Ub fZ hg6; have s6 := fZ.aZ wv.out Jn.out; have fz6 := (World.frozen?_of_block (fZ.block L.a (bt Jn.out) wv.out)).trans ZN.out))
 -- SH watch lists
 obtain ⟨w6, xd⟩ : ∃ w6, w5.setCell ⟨L.a, 4, none⟩ (.slice A6 (L4.ws.length + 2 * n) YZ) = w6 := ⟨_, rfl⟩
 have Ye : qa w5 A6 YZ (L4.ws ++ List.replicate (2 * n) ⟨none, 0, []⟩) := by
  unfold qa
  rw [ai, a7, bP, List.map_replicate]
  exact Ub
 obtain ⟨L6, h6, LX, Uk⟩ := H4.out.Wz Ye fZ (fun k hk _ => H4.out.t4 k hk) (fun k hk => by
  rcases hg6 k hk with h5 | h5
  ·exact .inl ⟨di H4.out.rws k h5, H4.out.t4 k h5⟩
  ·exact .inr h5)
 rw [tf.out.1, xd] at h6 Uk
 have H6 := aa h6
 have n9 := aa (aH.aM tf.out LX gS.out.size)
 have iG := aa (aH.aI tf.out gS.out Uk)
 have c2 := h6.cells.2.2.1
 rw [n9.out.1] at c2
 have hwv : IntKind.i64.wrap ((S.vars : Int) + 1) = (S.vars : Int) + 1 := IntWalk.i64_in _ (by omega)
 have aln : IntKind.i64.wrap ((S.vars : Int) + (n : Int)) = (S.vars : Int) + (n : Int) := IntWalk.i64_in _ (by omega)
 have XQ : HI H0 ∧ H0.at_.length = S.vars + n + 1 := by
  have h5 := kQ.out.hl
  rw [← HH0.out, Sv.xn h5 hb]
  refine ⟨kQ.out.hi.grow n, ?_⟩
  simp only [Hp.growBy, ai, a7]
  omega
 have HHI := aa XQ
 clear h6 LX Uk H4 tf gS Ub Ye fZ hg6 s6 fz6 c4 Jn ZN wv XQ kD
 rw [xd]
 clear xd
 go_wp2_with fail
 clear c2
 go_loopg [4] n (fun g x4 wr => ∃ (k : Nat) (Hk : Hp) (Lk : aH), k + g = n ∧ x4 = .int .i64 ((S.vars : Int) + 1 + k) ∧ Hid (Sv.jv g ((S.vars : Int) + 1 + k) Hk = Sv.jv n ((S.vars : Int) + 1) H0) ∧ Hid (HI Hk ∧ Hk.at_.length = S.vars + n + 1) ∧
   Hid (aK wr Lk { S with T := T0, H := Hk, phase := S.phase ++ List.replicate n false, watch := S.watch ++ List.replicate (2 * n) [] }) ∧ Hid (L.ext Lk w) ∧ Hid (Fr (L.own w) w wr))
 case atStart => exact ⟨0, H0, L6, by omega, by go_num, by show _ = _; simp, HHI.out, H6.out, n9.out, iG.out⟩
 case round =>
  obtain ⟨k, Hk, Lk, hk, rfl, HP, HIK, H7, zn, rP⟩ := hrel
  have HK := aa hk
  have j4 : k ≤ n := by omega
  obtain ⟨-, c1, c2, -⟩ := H7.out.cells
  rw [zn.out.1] at c1 c2
  clear hk
  by_cases bM : k < n
  ·obtain ⟨f, rfl⟩ : ∃ f, gk = f + 1 := ⟨gk - 1, by have := HK.out; omega⟩
   have hd : (S.vars : Int) + 1 + (k : Int) ≤ (S.vars : Int) + (n : Int) := by omega
   have KP := aa (ul wr Lk.hL Hk H7.out.hp HIK.out.1 (by have := HIK.out.2; omega) ((S.vars : Int) + 1 + k))
   have hwk : IntKind.i64.wrap ((S.vars : Int) + 1 + (k : Int) + 1) = (S.vars : Int) + 1 + (k : Int) + 1 := IntWalk.i64_in _ (by omega)
   have zl : Hid (Sv.jv f ((S.vars : Int) + 1 + ((k + 1 : Nat) : Int)) (Sv.io Hk ((S.vars : Int) + 1 + k)) = Sv.jv n ((S.vars : Int) + 1) H0) := by
    have h5 := HP.out
    rw [Sv.jv] at h5
    rw [show (S.vars : Int) + 1 + ((k + 1 : Nat) : Int) = (S.vars : Int) + 1 + (k : Int) + 1 from by omega]
    exact h5
   have agA : Hid (HI (Sv.io Hk ((S.vars : Int) + 1 + k)) ∧ (Sv.io Hk ((S.vars : Int) + 1 + k)).at_.length = S.vars + n + 1) := by
    have h5 := HIK.out.1.io ((S.vars : Int) + 1 + k)
    exact ⟨h5.1, h5.2.trans HIK.out.2⟩
   go_wp2_with fail
   refine KP.out.mono ?_
   clear KP c1 c2
   rintro e w8 ⟨b, rfl, hL8, hh8, Qb, kh⟩
   obtain ⟨L8, h8, Yx, Yp⟩ := H7.out.heap hh8 Qb kh
   have H8 := aa h8
   have HE8 := aa (aH.aM zn.out Yx rP.out.size)
   have GB := aa (aH.aI zn.out rP.out Yp)
   clear h8 Yx Yp hh8 Qb kh
   go_wp2_with fail
   go_roundg f
   case measure => omega
   case rel => exact ⟨k + 1, Sv.io Hk ((S.vars : Int) + 1 + k), L8, by have := HK.out; omega, by go_num, zl.out, agA.out, H8.out, HE8.out, GB.out⟩
  ·obtain rfl : k = n := by omega
   have V2 : gk = 0 := by have := HK.out; omega
   subst V2
   have hHk : Hk = Sv.jv k ((S.vars : Int) + 1) H0 := HP.out
   have hd : ¬ ((S.vars : Int) + 1 + (k : Int) ≤ (S.vars : Int) + (k : Int)) := by omega
   have hd' : (S.vars : Int) + (k : Int) < (S.vars : Int) + 1 + (k : Int) := by omega
   have f2 := H7.out.obj.frozen 2
   rw [zn.out.1] at f2
   obtain ⟨g9, f9⟩ := H7.out.nE 2 (.int .i64 ((S.vars : Int) + (k : Int))) { S with T := T0, H := Hk, phase := S.phase ++ List.replicate k false, watch := S.watch ++ List.replicate (2 * k) [], vars := S.vars + k } (by simp [m7]) ⟨rfl, rfl, rfl, rfl, rfl, rfl, rfl⟩
   rw [zn.out.1] at g9 f9
   have hS9 : ({ S with T := T0, H := Hk, phase := S.phase ++ List.replicate k false, watch := S.watch ++ List.replicate (2 * k) [], vars := S.vars + k } : Sv) = S.grow k := by
    unfold Sv.grow
    rw [hHk, ← HT0.out, ← HH0.out]
   rw [hS9] at g9
   have FF : Hid (me (.tuple #[]) (S.grow k) L w (.returned (.tuple #[])) (wr.setCell ⟨L.a, 2, none⟩ (.int .i64 ((S.vars : Int) + (k : Int))))) := ⟨rfl, Lk, g9, zn.out, aH.aI zn.out rP.out f9⟩
   clear g9 f9 hS9 hHk HP c1
   go_wp2_with fail
   go_end0
   exact FF.out
end Go.Proofs.YtpjbaobgnhjgoaaGreat
