/- Parts of a proof. -/
import Derived.Test.YtjmmpfjcpdepjaaGreatDoorGAE
import Derived.Laws.AppendOwnNone
import Derived.Laws.BitsLemmas
import Derived.Maps.OwnOps
import Derived.Maps.OwnSet
import Derived.Shelf.Abstract
import Derived.Lib.ConvBytes
import Derived.Lib.Bytealg
import Derived.Laws.Externs
import Derived.IntWalk
set_option linter.unusedVariables false
set_option linter.unusedSimpArgs false
set_option maxHeartbeats 8000000
set_option maxRecDepth 100000
namespace Go.Proofs.YtjmmpfjcpdepjaaGreatDoor
open Go.RowKit
theorem step_append_one {w:World} {ops:Array Oper} {o:Oper} {a:Act} {K:Act→World→Prop} {Q:Exit→Act→World→Prop} {E:Prop} (hgd:o.guard=none) (s x:Operand) (t:TypeId)
  (ho:o.op= .call { callee:= .builtin .append,args:=#[s,x],argTypes:=#[t,t] }) (e:TypeId) (z:Value) (size bytes:Nat) (ht:Tryz.prog.underlying t=some (.slice e)) (hi:(Tryz.prog.info? e).map (fun i=>(i.zero,i.size,i.bytes))=some (some z,size,bytes)) (hzs:z.cells.size=size) (hsz:0<size)
  (A:Option Addr) (c n:Nat) (hs:a.eval s= .slice A n c) (xs:List Value) (hown:w.ownsRow 0 e size (.slice A n c) n xs) (ad:Addr) (c':Nat) (hx:a.eval x= .slice (some ad) 1 c') (news:List Value) (hl:news.length=size)
  (hnews:∀j u,news[j]? =some u→w.cell? (ad.add j)=some u) (h1:∀u∈news,u.oneCell'=true) (h63:n+1≤maxLen) (hbytes:(n+1)*bytes≤140737488355328)
  (h:∀g cap w',w'.ownsRow 0 e size (.slice (some ⟨g,0,none⟩) (n+1) cap) (n+1) (xs++news)→Fr (blks A) w w'→(g∈blks A∨g=w.heap.size)→K (a.put o.dst (.slice (some ⟨g,0,none⟩) (n+1) cap)) w'):
  if Region.wanted o (yielded ops a.tmps)=true then Oper.wp Tryz.prog o a w K Q else E:=by
 have hw:Region.wanted o (yielded ops a.tmps)=true:=by simp [Region.wanted,hgd]
 rw [if_pos hw]
 obtain ⟨A',cap,w',hr,h2,h3,h4,h5,h6,h7⟩:=run_append_row w t o.type e z size bytes ht hi hzs hsz A c n xs hown ad 1 c' news (by omega) hnews h1 h63 hbytes
 cases A' with
 |none=>exact absurd (h6 rfl).1 (by decide)
 |some a'=>
  obtain ⟨g,rfl⟩:=h7 a' rfl
  unfold Oper.wp execOp
  simp only [ho,resolve,invoke,builtin,Sem.run_bind,Sem.run_pure,Result.andThen_ok,List.map_toArray,List.map_cons,List.map_nil,hs,hx,hr]
  exact h g cap w' h2 h3 (h4 g (by simp [blks]))
theorem SvAt.newc {w w1:World} {L:SvL} {S:Sv} (h:SvAt w L S) {A':Option Addr} {c':Nat} {F:List Nat} {x:Cw} (hi:Recs w1 A' c' (L.cs++[x])) (hf:Fr F w w1) (hF:∀k,k∈F→k<w.heap.size→L.lab k=(L.id,3,0))
  (hA:∀k,k∈blks A'→(k<w.heap.size∧L.lab k=(L.id,3,0))∨w.heap.size≤k) (hx:Ints w x.A x.c x.lits) (hxl:∀k,k∈blks x.A→L.lab k=(L.id,8,L.cs.length)):
  ∃L',SvAt (w1.setCell ⟨L.a,3,none⟩ (.slice A' (L.cs.length+1) c')) L' { S with list:=S.list++[x.rc] }∧L.ext L' w∧Fr (L.own w) w (w1.setCell ⟨L.a,3,none⟩ (.slice A' (L.cs.length+1) c'))∧L'={ L with cA:=A',cC:=c',cs:=L.cs++[x],lab:=L.re w (3,0) }:=by
 have hf2:Fr (L.a::F) w (w1.setCell ⟨L.a,3,none⟩ (.slice A' (L.cs.length+1) c')):=(hf.mono (fun k hk=> .inl (by simp [hk]))).setCell (.inl (by simp)) _
 have hF2:∀k,k∈L.a::F→k<w.heap.size→∃t,(t=(3,0)∨t=(0,0))∧L.lab k=(L.id,t):=by
  intro k hk hl
  rcases List.mem_cons.1 hk with rfl |hk
  ·exact ⟨_, .inr rfl,h.t0⟩
  ·exact ⟨_, .inl rfl,hF k hk hl⟩
 have o:=h.off (P:=fun t=>t=(3,0)∨t=(0,0)) hf2 hF2
 have o1:=h.off (P:=(· =(3,0))) hf (fun k hk hl=>⟨_,rfl,hF k hk hl⟩)
 have g:=h.tags (3,0)
 have hne:L.a∉blks A':=fun hk=>by
  rcases hA _ hk with ⟨_,h2⟩ |h2
  ·rw [h.t0] at h2;simp at h2
  ·have :=h.obj.lt;omega
 have hget:∀j:Nat,(L.cs++[x])[j]! =if j=L.cs.length then x else L.cs[j]! :=fun j=>by
  simp only [List.getElem!_eq_getElem?_getD,List.getElem?_append]
  split
  ·rw [if_neg (by omega)]
  ·rename_i hj
   split
   ·rename_i e;subst e;simp
   ·rw [List.getElem?_eq_none (by simp;omega),List.getElem?_eq_none (by omega)]
 have hxw:Ints (w1.setCell ⟨L.a,3,none⟩ (.slice A' (L.cs.length+1) c')) x.A x.c x.lits:=hx.fr hf2 (fun k hk hm=>by
  obtain ⟨t,ht,hl⟩:=hF2 k hm (hx.lt k hk)
  rw [hxl k hk] at hl
  simp only [Prod.mk.injEq,true_and] at hl
  rcases ht with rfl |rfl <;>simp at hl)
 refine ⟨{ L with cA:=A',cC:=c',cs:=L.cs++[x],lab:=L.re w (3,0) },⟨?_,o.tr (by simp),o.hp (by simp),h.hmade,?_,h.ews,?_,o.rws (by simp),o.rph (by simp),o.rmo (by simp),o.rco (by simp),?_,fun c hc=>o.ewh c hc (by simp),
  g.t0,g.t1,g.t2,fun k hk=>SvL.re_part (hA k hk),g.t4,g.t5,g.t6,g.t7,?_,g.t9⟩,⟨rfl,rfl,fun k hk e=>SvL.re_own hk e⟩,SvL.part_fr hf2 (fun k hk hl=>by obtain ⟨t,_,e⟩:=hF2 k hk hl;rw [e]),rfl⟩
 ·have :=(o1.obj (by simp)).set_ 3 (.slice A' (L.cs.length+1) c')
  simpa [scs] using this
 ·simp only [List.map_append,List.map_cons,List.map_nil,h.ecs]
 ·unfold Recs at hi⊢
  have hf3:Fr [L.a] w1 (w1.setCell ⟨L.a,3,none⟩ (.slice A' (L.cs.length+1) c')):=(Fr.refl _ w1).setCell (.inl (by simp)) _
  exact wild_fr hi hf3 (fun k hk hm=>hne (by simp at hm;subst hm;exact hk))
 ·intro j hj
  simp only [List.length_append,List.length_singleton] at hj
  simp only
  rw [hget]
  split
  ·exact hxw
  ·exact o.ech j (by omega) (by simp)
 ·intro j hj k hk
  simp only [List.length_append,List.length_singleton] at hj
  simp only at hk
  rw [hget] at hk
  split at hk
  ·rename_i e
   subst e
   show L.re w (3,0) k=_
   rw [SvL.re_old (hx.lt k hk)]
   exact hxl k hk
  ·exact g.t8 j (by omega) k hk
namespace Sv
def newc (S:Sv) (ls:List Int) (b:Bool):Sv:={ S with list:=S.list++[⟨ls,b,S.used⟩] }
theorem rc_newc (S:Sv) (ls:List Int) (b:Bool) (n:Nat):(S.newc ls b).rc n=if n=S.list.length then ⟨ls,b,S.used⟩ else S.rc n:=by
 simp only [rc,newc,List.getElem!_eq_getElem?_getD,List.getElem?_append]
 split
 ·rw [if_neg (by omega)]
 ·rename_i hj
  split
  ·rename_i e;subst e;simp
  ·rw [List.getElem?_eq_none (by simp;omega),List.getElem?_eq_none (by omega)]
structure Fits (S:Sv) (ls:List Int):Prop where
 two:2≤ls.length
 top:ls.length≤1048576
 lit:∀x∈ls,x≠0∧ -(S.vars:Int)≤x∧x≤S.vars
theorem Ok.newc {S:Sv} {m:Nat} (ok:S.Ok m) {ls:List Int} (hl:S.Fits ls) (b:Bool) (hr:S.list.length<2199023255552):(S.newc ls b).Ok (m+2):=by
 have hlen:(S.newc ls b).list.length=S.list.length+1:=by simp [Sv.newc]
 refine ⟨ok.vl,ok.tr,ok.hi,ok.hl,ok.ph,ok.wl,by rw [hlen];omega,fun c n hn=> ?_,?_,fun n x hx=> ?_,fun n=> ?_,fun n=> ?_,ok.hd,fun v=> ?_⟩
 ·have :=ok.wb c n hn
  omega
 ·rw [hlen]
  have :=ok.wt
  show (S.watch.map List.length).sum+(m+2)≤_
  omega
 ·rw [rc_newc] at hx
  split at hx
  ·exact hl.lit x hx
  ·exact ok.lr n x hx
 ·rw [rc_newc]
  split
  ·have :=hl.two
   show ls.length≠1
   omega
  ·exact ok.ln n
 ·rw [rc_newc]
  split
  ·exact hl.top
  ·exact ok.lb n
 ·rw [hlen]
  have :=ok.rs v
  show 0≤S.T.reaB v∧S.T.reaB v≤_
  omega
theorem Ok.attach1 {S:Sv} {m:Nat} (ok:S.Ok m) {ls:List Int} (hl:S.Fits ls) (b:Bool) (hr:S.list.length<2199023255552):((S.newc ls b).wput (lcode ls[0]!) S.list.length).Ok (m+1):=by
 have h:=ok.newc hl b hr
 have h2:=hl.two
 have hw:(S.newc ls b).watch.length=2*S.vars+2:=ok.wl
 have hlen:(S.newc ls b).list.length=S.list.length+1:=by simp [Sv.newc]
 have b0:=hl.lit _ (get_mem (l:=ls) (i:=0) (by omega))
 exact Ok.wput (S:=S.newc ls b) (m:=m+1) h (c:=lcode ls[0]!) (n:=S.list.length) (by rw [hw];exact code_lt b0.2.1 b0.2.2) (by omega)
theorem Ok.attach {S:Sv} {m:Nat} (ok:S.Ok m) {ls:List Int} (hl:S.Fits ls) (b:Bool) (hr:S.list.length<2199023255552):(S.attach ls b).Ok m:=by
 have h:=ok.newc hl b hr
 have h2:=hl.two
 have hw:(S.newc ls b).watch.length=2*S.vars+2:=ok.wl
 have hlen:(S.newc ls b).list.length=S.list.length+1:=by simp [Sv.newc]
 have b0:=hl.lit _ (get_mem (l:=ls) (i:=0) (by omega))
 have b1:=hl.lit _ (get_mem (l:=ls) (i:=1) (by omega))
 have k1:=Ok.wput (S:=S.newc ls b) (m:=m+1) h (c:=lcode ls[0]!) (n:=S.list.length) (by rw [hw];exact code_lt b0.2.1 b0.2.2) (by omega)
 exact Ok.wput k1 (c:=lcode ls[1]!) (n:=S.list.length) (by show lcode ls[1]! <((S.newc ls b).watch.set _ _).length;rw [List.length_set,hw];exact code_lt b1.2.1 b1.2.2) (by show _<(S.newc ls b).list.length;omega)
theorem attach_same (S:Sv) (ls:List Int) (b:Bool):(S.attach ls b).T=S.T∧(S.attach ls b).vars=S.vars∧(S.attach ls b).list.length=S.list.length+1∧(S.attach ls b).head=S.head∧(S.attach ls b).used=S.used∧(S.attach ls b).H=S.H:=by simp [attach,wput,wset]
end Sv
theorem infoRec:(Tryz.prog.info? 158).map (fun i=>(i.zero,i.size,i.bytes))=some (some (.agg #[.slice none 0 0, .bool false, .int .i64 0]),3,40):=by kernel_rfl
theorem three_cells {w:World} {g:Nat} {t:TypeId} {a b c:Value} (h:At w g t #[a,b,c]):∀j u,[a,b,c][j]? =some u→w.cell? ((Addr.mk g 0 none).add j)=some u:=fun j u hu=>by
 rw [addr_add,Nat.zero_add,h.cell]
 simpa using hu
theorem flatC_one (cs:List Cw) (x:Cw):flatC cs++[.slice x.A x.lits.length x.c, .bool x.lrn, .int .i64 x.act]=flatC (cs++[x]):=by rw [flatC_app];rfl
theorem tail3 {α β γ:Type} {C:α→β→γ→Prop} {P:α→β→γ→Prop} {G:Prop} (m:(∀x y z,C x y z→P x y z)→G) (t:∀x y z,C x y z→P x y z):G:=m t
def AtP (n:Nat) (S':Sv) (A:Option Addr) (c:Nat) (ls:List Int) (L:SvL) (w:World) (e:Ending) (w':World):Prop:=
 e= .returned (.int .i64 (n:Nat))∧∃L',SvAt w' L' S'∧L'.a=L.a∧L'.id=L.id∧(∀k,k<w.heap.size→(L'.lab k).1=L.id→(L.lab k).1=L.id∨k∈blks A)∧Fr (blks A++L.own w) w w'∧Ints w' A c ls∧L'.tL=L.tL
theorem attach_calls (w:World) (L:SvL) (S:Sv) (h:SvAt w L S) (m:Nat) (ok:S.Ok m) (A:Option Addr) (c:Nat) (ls:List Int) (b:Bool) (hi:Ints w A c ls) (hfit:S.Fits ls) (hA:∀k,k∈blks A→(L.lab k).1≠L.id) (hr:S.list.length<2199023255552) (hu:S.used≤2199023255552):
  Calls Tryz.prog 88 #[.pointer (some ⟨L.a,0,none⟩), .slice A ls.length c, .bool b] w (AtP S.list.length (S.attach ls b) A c ls L w):=by
 obtain ⟨ga,hga,hgal⟩:=hi.pos (i:=0) (by have :=hfit.two;omega)
 subst hga
 have hlenc:=h.lenc
 have hwl:=h.lenw.trans ok.wl
 have hno:∀k,L.has k→k∉blks (some (⟨ga,0,none⟩:Addr)):=fun k hk hm=>hA k hm (h.has_own hk)
 have h0:=h.relab (fun k=>if k∈blks (some (⟨ga,0,none⟩:Addr)) then (L.id,8,L.cs.length) else L.lab k) (fun k hk=>if_neg (hno k hk))
 obtain ⟨L0,hL0⟩:∃L0,({ L with lab:=fun k=>if k∈blks (some (⟨ga,0,none⟩:Addr)) then (L.id,8,L.cs.length) else L.lab k }:SvL)=L0:=⟨_,rfl⟩
 rw [hL0] at h0
 have ea0:L0.a=L.a:=by rw [←hL0]
 have ecs0:L0.cs=L.cs:=by rw [←hL0]
 have ews0:L0.ws=L.ws:=by rw [←hL0]
 have eid0:L0.id=L.id:=by rw [←hL0]
 have hlga:L0.lab ga=(L0.id,8,L0.cs.length):=by rw [←hL0];simp [blks]
 have hbk:Hid (∀W L',SvAt W L' (S.attach ls b)→L0.ext L' w→Fr (L0.own w) w W→Ints W (some ⟨ga,0,none⟩) c ls→L'.tL=L0.tL→AtP S.list.length (S.attach ls b) (some ⟨ga,0,none⟩) c ls L w (.returned (.int .i64 (S.list.length:Nat))) W):=fun W L' g1 g2 g3 g4 g5=>by
  refine ⟨rfl,L',g1,g2.1.trans ea0,g2.2.1.trans eid0,fun k hk e=> ?_,?_,g4,by rw [g5,←hL0]⟩
  ·have e2:=g2.2.2 k hk (e.trans eid0.symm)
   rw [←hL0] at e2
   simp only at e2
   by_cases hm:k∈blks (some (⟨ga,0,none⟩:Addr))
   ·exact .inr hm
   ·rw [if_neg hm] at e2
    exact .inl e2
  ·refine g3.mono (fun k hk=> ?_)
   rw [SvL.mem_own] at hk
   left
   by_cases hm:k∈blks (some (⟨ga,0,none⟩:Addr))
   ·exact List.mem_append_left _ hm
   ·refine List.mem_append_right _ (SvL.mem_own.2 ⟨hk.1,?_⟩)
    have e2:=hk.2
    rw [←hL0] at e2
    simp only [if_neg hm] at e2
    exact e2
 have hlC:L0.cs.length=S.list.length:=h0.lenc
 have hwl0:L0.ws.length=2*S.vars+2:=by rw [ews0];exact hwl
 have hrow0:=hi.cell (i:=0) (by have :=hfit.two;omega)
 have hrow1:=hi.cell (i:=1) (by have :=hfit.two;omega)
 obtain ⟨-,-,-,c3,c4,-,-,-,-,c9,-⟩:=h0.cells
 have f3:=h0.obj.frozen 3
 rw [ea0] at c3 c4 c9 f3
 have HC3:=Lib.hid c3
 have HC4:=Lib.hid c4
 have HC9:=Lib.hid c9
 have HF3:=Lib.hid f3
 have HFIT:=Lib.hid hfit
 have hcb:Recs w L0.cA L0.cC L0.cs:=h0.rcs
 have HN3:Hid (L.a∉blks L0.cA):=fun hm=>by
  have e1:=h0.t3 _ hm
  rw [←ea0,h0.t0] at e1
  simp at e1
 have hlt3:∀k,k∈blks L0.cA→k<w.heap.size:=own_lt' hcb
 have hown3:∀k,k∈blks L0.cA→L0.lab k=(L0.id,3,0):=h0.t3
 have HLT3:=Lib.hid hlt3
 have HOWN3:=Lib.hid hown3
 have H0:=Lib.hid h0
 have HI:=Lib.hid hi
 have HLG:=Lib.hid hlga
 have HEA0:=Lib.hid ea0
 have HOK:=Lib.hid (ok.newc hfit b hr)
 have HOK1:=Lib.hid (ok.attach1 hfit b hr)
 have HLC:=Lib.hid hlC
 have HWL0:=Lib.hid hwl0
 have HR0:=Lib.hid hrow0
 have HR1:=Lib.hid hrow1
 have hn40:L0.cs.length<2199023255552:=by omega
 obtain ⟨n,hn⟩:∃n,L0.cs.length=n:=⟨_,rfl⟩
 have hnS:S.list.length=n:=by omega
 rw [hnS] at hbk⊢
 rw [hn] at c3 hn40
 have HN:=Lib.hid hn
 unfold Recs at hcb
 rw [hn] at hcb
 have HREC:=Lib.hid hcb
 have hl2:2≤ls.length:=hfit.two
 have HNS:=Lib.hid hnS
 have hlt:ls.length≤1048576:=hfit.top
 have HVL:=Lib.hid ok.vl
 clear f3 c4 c9 hcb hlt3 hown3 h0 hi hlga ea0 h ok hfit hA hno hL0 ecs0 ews0 eid0 hlenc hwl hlC hwl0 hrow0 hrow1 hn hnS hr
 go_enter Tryz.func88,Tryz.ntmps88
 go_wp2_with fail
 clear c3
 go_upto_region 2 with fail
 refine wp_region_noPanic ?_
 refine wp_region_C (fun w':World=>Fr (blks L0.cA) w w') 16 (by kernel_rfl) ((Fr.refl _ w).drew) (fun hT0=> ?_)
 apply TB 12 [(0,[]),(1,[]),(2,[]),(3,[]),(4,[4,16]),(5,[]),(6,[]),(7,[]),(8,[]),(9,[]),(10,[10,16]),(11,[])];kernel_rfl;rfl;· (repeat (apply TBc;rfl;rfl;(· intro w hSw;(try (have hSw:=hSw.resolve_left (List.cons_ne_nil _ _);(have s3:=hSw.cellN HN3.out HC3.out;have s9:=hSw.cellN HN3.out HC9.out;rw [HN.out] at s3)));go_simp<;>with_reducible rfl);try simp only [Act.put,q5,q6,q7]));exact TBn
 exact hT0;intro hT0
 refine R2 12 (by kernel_rfl) (by rfl) hT0 fun K hK hSx=> ?_
 go_simp
 refine hK.out _ _ (.inr ?_) (fun hT13=> ?_)
 ·first |exact hSx.then_ hf3 |exact hSx.alloc _ |exact hSx
 clear hK K
 try simp only [Act.put,q5,q6,q7]
 refine R2 13 (by kernel_rfl) (by rfl) hT13 fun K hK hSx=> ?_
 (refine step_append_one rfl _ _ 120 rfl 158 (.agg #[.slice none 0 0, .bool false, .int .i64 0]) 3 40 Tryz.underlying120 infoRec rfl (by decide) L0.cA L0.cC n rfl (flatC L0.cs) ?hownr2u14 _ 1 rfl [.slice (some ⟨ga,0,none⟩) ls.length c, .bool b, .int .i64 S.used] rfl ?hnewsr2u14 (by simp [Value.oneCell']) (by unfold maxLen;omega) (by omega) ?_;(case hownr2u14=>exact wild_fr HREC.out ((Fr.refl [] w).alloc _).drew (fun k hk hm=>by cases hm));(case hnewsr2u14=>exact three_cells (At.new _ _ _));intro g3 cap3 w3 hi3 hf3 hg3)
 refine hK.out _ _ (.inr ?_) (fun hT14=> ?_)
 ·first |exact hSx.then_ hf3 |exact hSx.alloc _ |exact hSx
 clear hK K
 try simp only [Act.put,q5,q6,q7]
 apply TB 2 [(14,[]),(15,[])];kernel_rfl;rfl;· (repeat (apply TBc;rfl;rfl;(· intro w hSw;go_simp<;>with_reducible rfl);try simp only [Act.put,q5,q6,q7]));exact TBn
 exact hT14;intro hT14
 refine R2 16 (by kernel_rfl) (by rfl) hT14 fun K hK hSx=> ?_
 (have sb:=hSx.cellN HN3.out HC3.out;have fb:World.frozen? _ _=_:=(World.frozen?_of_block (hSx.block L.a (lt_of_cell HC3.out) HN3.out)).trans HF3.out;go_simp)
 refine hK.out _ _ (.inl rfl) (fun hT17=> ?_)
 clear hK K
 try simp only [Act.put,q5,q6,q7]
 refine wpAnyC_done (by kernel_rfl) ?_ _
 refine NoPanic.normal ?_
 have hi4:Recs w3 (some ⟨g3,0,none⟩) cap3 (L0.cs++[⟨some ⟨ga,0,none⟩,c,ls,b,S.used⟩]):=by
  unfold Recs
  rw [←flatC_one,List.length_append,List.length_singleton,HN.out]
  exact hi3
 obtain ⟨L1,h1,he1,hf1,hL1⟩:=H0.out.newc (x:=⟨some ⟨ga,0,none⟩,c,ls,b,S.used⟩) hi4 hSx (fun k hk _=>HOWN3.out k hk) (fun k hk=>by
  simp [blks] at hk
  subst hk
  rcases hg3 with h5 |h5
  ·exact .inl ⟨HLT3.out _ h5,HOWN3.out _ h5⟩
  ·right
   rw [h5]
   simp) HI.out (fun k hk=>by simp [blks] at hk;subst hk;exact HLG.out)
 rw [HEA0.out,HN.out] at h1 hf1
 obtain ⟨W1,hW1⟩:∃W,w3.setCell ⟨L.a,3,none⟩ (.slice (some ⟨g3,0,none⟩) (n+1) cap3)=W:=⟨_,rfl⟩
 rw [hW1] at h1 hf1⊢
 have H1:Hid (SvAt W1 L1 (S.newc ls b)):=h1
 have hcs1:L1.cs=L0.cs++[⟨some ⟨ga,0,none⟩,c,ls,b,S.used⟩]:=by rw [hL1]
 have HCS1:=Lib.hid hcs1
 have HTL1:Hid (L1.tL=L0.tL):=(by rw [hL1]:L1.tL=L0.tL)
 have HXN:Hid (L1.cs[n]! =⟨some ⟨ga,0,none⟩,c,ls,b,S.used⟩):=by
  show _=_
  rw [hcs1,←HN.out]
  simp
 have HEA0':Hid (L1.a=L.a):=(he1.1.trans HEA0.out:L1.a=L.a)
 have HIW0:Hid (Ints W1 (some ⟨ga,0,none⟩) c ls):=by
  have :=h1.ech n (by rw [hcs1,List.length_append,HN.out];simp)
  rw [HXN.out] at this
  exact this
 have HLG0:Hid (L1.lab ga=(L1.id,8,n)):=h1.t8 n (by rw [hcs1,List.length_append,HN.out];simp) ga (by rw [HXN.out];simp [blks])
 have HE1:=Lib.hid he1
 have HF1:=Lib.hid hf1
 clear hW1 h1 hf1 he1 hL1 hcs1 hSx hi3 hi4 hf3 hg3 HREC HC3 HC4 HC9 HF3 HN3 HLT3 HOWN3
 go_wp2_with fail
 obtain ⟨y0,hy0⟩:∃y,ls[0]! =y:=⟨_,rfl⟩
 have hyb0:=HFIT.out.lit _ (get_mem (l:=ls) (i:=0) (by omega))
 rw [hy0] at hyb0
 obtain ⟨-,hya0,hyz0⟩:=hyb0
 have hcy0:lcode y0<L1.ws.length:=by
  rw [H1.out.lenw,HOK.out.wl]
  exact code_lt (v:=S.vars) hya0 hyz0
 obtain ⟨cy0,hcz0⟩:∃c,lcode y0=c:=⟨_,rfl⟩
 have hvl0:=HVL.out
 have KC0:=Lib.hid (fun W'=>code_calls W' y0 (by omega) (by omega))
 have HCY0:=Lib.hid hcz0
 simp only [hcz0] at KC0
 rw [hcz0] at hcy0
 obtain ⟨gw0,hgw0,sw0,fw0⟩:=H1.out.whd hcy0
 have hr90:=H1.out.ewh cy0 hcy0
 have hl90:=HOK.out.room cy0
 have hw90:=H1.out.wat_eq hcy0
 unfold Sv.wat at hw90
 rw [hw90] at hl90
 have hn90:∀j,j∈blks (L1.ws[cy0]!).A→L1.lab j=(L1.id,9,cy0):=H1.out.t9 cy0 hcy0
 obtain ⟨⟨A90,c90,l90⟩,hx90⟩:∃x,L1.ws[cy0]! =x:=⟨_,rfl⟩
 rw [hx90] at sw0 hr90 hl90 hw90 hn90
 simp only at sw0 hr90 hl90 hw90 hn90
 obtain ⟨-,-,-,-,s40,-⟩:=H1.out.cells
 rw [hgw0,HEA0'.out] at s40
 have HN00:Hid (L.a∉blks A90):=fun hm=>by
  have e1:=hn90 _ hm
  rw [←HEA0'.out,H1.out.t0] at e1
  simp at e1
 have HN10:Hid (ga∉blks A90):=fun hm=>by
  have e1:=hn90 _ hm
  rw [HLG0.out] at e1
  simp at e1
 have HN20:Hid (gw0∉blks A90):=fun hm=>by
  have e1:=hn90 _ hm
  rw [H1.out.t4 gw0 (by rw [hgw0];simp [blks])] at e1
  simp at e1
 have s10:W1.cell? ⟨ga,0,none⟩=some (.int .i64 y0):=by rw [HIW0.out.cell (i:=0) (by omega),hy0]
 have HS40:=Lib.hid s40
 have HS10:=Lib.hid s10
 have HSW0:=Lib.hid sw0
 have HFW90:=Lib.hid fw0
 have HR90:=Lib.hid hr90
 have HN90:=Lib.hid hn90
 have HW90:=Lib.hid hw90
 have HGW0:=Lib.hid hgw0
 have HCYL0:=Lib.hid hcy0
 have hcyi0:cy0<L1.ws.length:=hcy0
 have hcyj0:(cy0:Int)<(L1.ws.length:Int):=by omega
 have hls0:(0:Int)<(ls.length:Int):=by omega
 have hlsn0:0<ls.length:=by omega
 have HLL90:Hid (l90.length<17592186044416):=(by omega:l90.length<17592186044416)
 have HFRW0:Hid (Fr (blks A90) W1 W1):=Fr.refl _ _
 have HY0:=Lib.hid hy0
 clear hgw0 hcy0 hr90 hl90 hw90 hn90 hx90 s40 s10 sw0 fw0 hcz0 hy0
 go_upto_region 3 with fail
 apply tail3 (C:=fun (gA cA:Nat) (wA:World)=>Ints wA (some ⟨gA,0,none⟩) cA (casts l90++[(n:Int)])∧Fr (blks A90) W1 wA∧(gA∈blks A90∨W1.heap.size≤gA))
 ·intro TAIL0
  refine wp_region_noPanic ?_
  refine wp_region_C (fun w':World=>Fr (blks A90) W1 w') 22 (by kernel_rfl) (HFRW0.out.drew) (fun hT0=> ?_)
  apply TB 15 [(0,[]),(1,[]),(2,[]),(3,[3,22]),(4,[]),(5,[]),(6,[6,22]),(8,[]),(9,[]),(10,[]),(11,[11,22]),(12,[]),(13,[]),(14,[14,22]),(18,[])];kernel_rfl;rfl;· (repeat (apply TBc;rfl;rfl;(· intro w hSw;(try (have hSw:=hSw.resolve_left (List.cons_ne_nil _ _);(have s4:=hSw.cellN HN00.out HS40.out;have s1:=hSw.cellN HN10.out HS10.out;have sw:=hSw.cellN HN20.out HSW0.out)));go_simp<;>with_reducible rfl);try simp only [Act.put,q5,q6,q7]));exact TBn
  exact hT0;intro hT0
  have hSx:=hT0.resolve_left (by decide)
  refine wpAnyC_ready (rs:=[7,19]) (by kernel_rfl) (by simp) ?_
  refine ReadyC.cons (o:= ?or3u16) ?hor3u16 ?hstepr3u16 ?_
  case hor3u16=>rfl
  case hstepr3u16=>
   intro K hK
   (go_simp;refine (KC0.out _).mono ?_;rintro e w5 ⟨rfl,rfl⟩;dsimp only)
   refine hK.out _ _ (.inr ?_) (fun hT16=> ?_)
   ·first |exact hSx.then_ hfA0 |exact hSx.alloc _ |exact hSx
   clear hK K
   try simp only [Act.put,q5,q6,q7]
   have hSx:=hT16.resolve_left (by decide)
   refine wpAnyC_ready (rs:=[15,19]) (by kernel_rfl) (by simp) ?_
   refine ReadyC.cons (o:= ?or3u17) ?hor3u17 ?hstepr3u17 ?_
   case hor3u17=>rfl
   case hstepr3u17=>
    intro K hK
    (go_simp;refine (KC0.out _).mono ?_;rintro e w5 ⟨rfl,rfl⟩;dsimp only)
    refine hK.out _ _ (.inr ?_) (fun hT17=> ?_)
    ·first |exact hSx.then_ hfA0 |exact hSx.alloc _ |exact hSx
    clear hK K
    try simp only [Act.put,q5,q6,q7]
    apply TB 2 [(16,[]),(17,[17,22])];kernel_rfl;rfl;· (repeat (apply TBc;rfl;rfl;(· intro w hSw;(try (have hSw:=hSw.resolve_left (List.cons_ne_nil _ _);(have s4:=hSw.cellN HN00.out HS40.out;have s1:=hSw.cellN HN10.out HS10.out;have sw:=hSw.cellN HN20.out HSW0.out)));go_simp<;>with_reducible rfl);try simp only [Act.put,q5,q6,q7]));exact TBn
    exact hT17;intro hT17
    refine R2 19 (by kernel_rfl) (by rfl) hT17 fun K hK hSx=> ?_
    go_simp
    refine hK.out _ _ (.inr ?_) (fun hT20=> ?_)
    ·first |exact hSx.then_ hfA0 |exact hSx.alloc _ |exact hSx
    clear hK K
    try simp only [Act.put,q5,q6,q7]
    refine R2 20 (by kernel_rfl) (by rfl) hT20 fun K hK hSx=> ?_
    (refine step_append_int rfl _ _ rfl A90 c90 (casts l90) _ rfl (casts_len l90).symm ?hownr3u21 _ 1 n rfl ?hcellr3u21 (by rw [casts_len];exact HLL90.out) ?_;(case hownr3u21=>first |exact HR90.out.drew.alloc _ |exact HR90.out.alloc _ |exact HR90.out);(case hcellr3u21=>simp);intro gA0 cA0 wA0 hiA0 hfA0 hgA0 hsA0)
    refine hK.out _ _ (.inr ?_) (fun hT21=> ?_)
    ·first |exact hSx.then_ hfA0 |exact hSx.alloc _ |exact hSx
    clear hK K
    try simp only [Act.put,q5,q6,q7]
    apply TB 1 [(21,[])];kernel_rfl;rfl;· (repeat (apply TBc;rfl;rfl;(· intro w hSw;go_simp<;>with_reducible rfl);try simp only [Act.put,q5,q6,q7]));exact TBn
    exact hT21;intro hT21
    refine R2 22 (by kernel_rfl) (by rfl) hT21 fun K hK hSx=> ?_
    (have sb:=hSx.cellN HN20.out HSW0.out;have fb:World.frozen? _ _=_:=(World.frozen?_of_block (hSx.block gw0 (lt_of_cell HSW0.out) HN20.out)).trans HFW90.out;go_simp)
    refine hK.out _ _ (.inl rfl) (fun hT23=> ?_)
    clear hK K
    try simp only [Act.put,q5,q6,q7]
    refine wpAnyC_done (by kernel_rfl) ?_ _
    refine NoPanic.normal ?_
    exact TAIL0 _ _ _ ⟨hiA0,hSx,hgA0.imp id (fun h=>by rw [h];first |exact Nat.le_refl _ |simp)⟩
   refine ReadyC.cons (o:= ?or3u24) ?hor3u24 ?hstepr3u24 ReadyC.nil
   case hor3u24=>rfl
   intro K hK
   go_simp
   refine hK.out _ _ (.inr ?_) (fun hT17=> ?_)
   ·first |exact hSx.then_ hfA0 |exact hSx.alloc _ |exact hSx
   clear hK K
   try simp only [Act.put,q5,q6,q7]
   refine R2 15 (by kernel_rfl) (by rfl) hT17 fun K hK hSx=> ?_
   (go_simp;refine (KC0.out _).mono ?_;rintro e w5 ⟨rfl,rfl⟩;dsimp only)
   refine hK.out _ _ (.inr ?_) (fun hT18=> ?_)
   ·first |exact hSx.then_ hfA0 |exact hSx.alloc _ |exact hSx
   clear hK K
   try simp only [Act.put,q5,q6,q7]
   apply TB 2 [(16,[]),(17,[17,22])];kernel_rfl;rfl;· (repeat (apply TBc;rfl;rfl;(· intro w hSw;(try (have hSw:=hSw.resolve_left (List.cons_ne_nil _ _);(have s4:=hSw.cellN HN00.out HS40.out;have s1:=hSw.cellN HN10.out HS10.out;have sw:=hSw.cellN HN20.out HSW0.out)));go_simp<;>with_reducible rfl);try simp only [Act.put,q5,q6,q7]));exact TBn
   exact hT18;intro hT18
   refine R2 20 (by kernel_rfl) (by rfl) hT18 fun K hK hSx=> ?_
   (refine step_append_int rfl _ _ rfl A90 c90 (casts l90) _ rfl (casts_len l90).symm ?hownr3u28 _ 1 n rfl ?hcellr3u28 (by rw [casts_len];exact HLL90.out) ?_;(case hownr3u28=>first |exact HR90.out.drew.alloc _ |exact HR90.out.alloc _ |exact HR90.out);(case hcellr3u28=>simp);intro gA0 cA0 wA0 hiA0 hfA0 hgA0 hsA0)
   refine hK.out _ _ (.inr ?_) (fun hT21=> ?_)
   ·first |exact hSx.then_ hfA0 |exact hSx.alloc _ |exact hSx
   clear hK K
   try simp only [Act.put,q5,q6,q7]
   apply TB 1 [(21,[])];kernel_rfl;rfl;· (repeat (apply TBc;rfl;rfl;(· intro w hSw;go_simp<;>with_reducible rfl);try simp only [Act.put,q5,q6,q7]));exact TBn
   exact hT21;intro hT21
   refine R2 22 (by kernel_rfl) (by rfl) hT21 fun K hK hSx=> ?_
   (have sb:=hSx.cellN HN20.out HSW0.out;have fb:World.frozen? _ _=_:=(World.frozen?_of_block (hSx.block gw0 (lt_of_cell HSW0.out) HN20.out)).trans HFW90.out;go_simp)
   refine hK.out _ _ (.inl rfl) (fun hT23=> ?_)
   clear hK K
   try simp only [Act.put,q5,q6,q7]
   refine wpAnyC_done (by kernel_rfl) ?_ _
   refine NoPanic.normal ?_
   exact TAIL0 _ _ _ ⟨hiA0,hSx,hgA0.imp id (fun h=>by rw [h];first |exact Nat.le_refl _ |simp)⟩
  refine ReadyC.cons (o:= ?or3u31) ?hor3u31 ?hstepr3u31 ReadyC.nil
  case hor3u31=>rfl
  intro K hK
  go_simp
  refine hK.out _ _ (.inr ?_) (fun hT16=> ?_)
  ·first |exact hSx.then_ hfA0 |exact hSx.alloc _ |exact hSx
  clear hK K
  try simp only [Act.put,q5,q6,q7]
  refine R2 7 (by kernel_rfl) (by rfl) hT16 fun K hK hSx=> ?_
  (go_simp;refine (KC0.out _).mono ?_;rintro e w5 ⟨rfl,rfl⟩;dsimp only)
  refine hK.out _ _ (.inr ?_) (fun hT17=> ?_)
  ·first |exact hSx.then_ hfA0 |exact hSx.alloc _ |exact hSx
  clear hK K
  try simp only [Act.put,q5,q6,q7]
  refine R2 15 (by kernel_rfl) (by rfl) hT17 fun K hK hSx=> ?_
  (go_simp;refine (KC0.out _).mono ?_;rintro e w5 ⟨rfl,rfl⟩;dsimp only)
  refine hK.out _ _ (.inr ?_) (fun hT18=> ?_)
  ·first |exact hSx.then_ hfA0 |exact hSx.alloc _ |exact hSx
  clear hK K
  try simp only [Act.put,q5,q6,q7]
  apply TB 2 [(16,[]),(17,[17,22])];kernel_rfl;rfl;· (repeat (apply TBc;rfl;rfl;(· intro w hSw;(try (have hSw:=hSw.resolve_left (List.cons_ne_nil _ _);(have s4:=hSw.cellN HN00.out HS40.out;have s1:=hSw.cellN HN10.out HS10.out;have sw:=hSw.cellN HN20.out HSW0.out)));go_simp<;>with_reducible rfl);try simp only [Act.put,q5,q6,q7]));exact TBn
  exact hT18;intro hT18
  refine R2 20 (by kernel_rfl) (by rfl) hT18 fun K hK hSx=> ?_
  (refine step_append_int rfl _ _ rfl A90 c90 (casts l90) _ rfl (casts_len l90).symm ?hownr3u36 _ 1 n rfl ?hcellr3u36 (by rw [casts_len];exact HLL90.out) ?_;(case hownr3u36=>first |exact HR90.out.drew.alloc _ |exact HR90.out.alloc _ |exact HR90.out);(case hcellr3u36=>simp);intro gA0 cA0 wA0 hiA0 hfA0 hgA0 hsA0)
  refine hK.out _ _ (.inr ?_) (fun hT21=> ?_)
  ·first |exact hSx.then_ hfA0 |exact hSx.alloc _ |exact hSx
  clear hK K
  try simp only [Act.put,q5,q6,q7]
  apply TB 1 [(21,[])];kernel_rfl;rfl;· (repeat (apply TBc;rfl;rfl;(· intro w hSw;go_simp<;>with_reducible rfl);try simp only [Act.put,q5,q6,q7]));exact TBn
  exact hT21;intro hT21
  refine R2 22 (by kernel_rfl) (by rfl) hT21 fun K hK hSx=> ?_
  (have sb:=hSx.cellN HN20.out HSW0.out;have fb:World.frozen? _ _=_:=(World.frozen?_of_block (hSx.block gw0 (lt_of_cell HSW0.out) HN20.out)).trans HFW90.out;go_simp)
  refine hK.out _ _ (.inl rfl) (fun hT23=> ?_)
  clear hK K
  try simp only [Act.put,q5,q6,q7]
  refine wpAnyC_done (by kernel_rfl) ?_ _
  refine NoPanic.normal ?_
  exact TAIL0 _ _ _ ⟨hiA0,hSx,hgA0.imp id (fun h=>by rw [h];first |exact Nat.le_refl _ |simp)⟩
 ·intro gA0 cA0 wA0 ⟨hiA0,hSx,hgA0⟩
  have hiB0:Ints wA0 (some ⟨gA0,0,none⟩) cA0 (casts (l90++[n])):=by rw [←casts_app];exact hiA0
  obtain ⟨gv0,hg20,_,_,L2,h20,he20,hf20,hL20⟩:=H1.out.wset HCYL0.out hiB0 hSx (fun j hj _=>HN90.out j hj) (fun j hj=>by
   simp [blks] at hj
   subst hj
   exact hgA0.imp (fun h5=>⟨(HR90.out.lt _ h5),HN90.out _ h5⟩) id)
  obtain rfl :gw0=gv0:=by rw [HGW0.out] at hg20;simpa using hg20
  simp only [List.length_append,List.length_singleton] at h20 hf20
  obtain ⟨W2,hW2⟩:∃W,wA0.setCell ⟨gw0,cy0,none⟩ (.slice (some ⟨gA0,0,none⟩) (l90.length+1) cA0)=W:=⟨_,rfl⟩
  rw [hW2] at h20 hf20⊢
  have hS2:(S.newc ls b).wset cy0 (l90++[n])=(S.newc ls b).wput (lcode ls[0]!) S.list.length:=by
   unfold Sv.wput Sv.wat
   rw [HY0.out,HCY0.out,HW90.out,HNS.out]
  rw [hS2] at h20
  have hcs2:L2.cs=L1.cs:=by rw [hL20]
  have HTL2:Hid (L2.tL=L0.tL):=(by rw [hL20]:L2.tL=L1.tL).trans HTL1.out
  have HCS2:Hid (L2.cs=L0.cs++[⟨some ⟨ga,0,none⟩,c,ls,b,S.used⟩]):=hcs2.trans HCS1.out
  have HEA1:Hid (L2.a=L.a):=(he20.1.trans HEA0'.out:L2.a=L.a)
  have HIW1:Hid (Ints W2 (some ⟨ga,0,none⟩) c ls):=by
   have :=h20.ech n (by rw [hcs2,HCS1.out,List.length_append,HN.out];simp)
   rw [hcs2,HXN.out] at this
   exact this
  have HLG1:Hid (L2.lab ga=(L2.id,8,n)):=h20.t8 n (by rw [hcs2,HCS1.out,List.length_append,HN.out];simp) ga (by rw [hcs2,HXN.out];simp [blks])
  have HE2:=Lib.hid (SvL.ext_trans HE1.out he20 HF1.out.size)
  have HF2:=Lib.hid (SvL.own_then HE1.out HF1.out hf20)
  have H2:=Lib.hid h20
  clear hW2 h20 hf20 he20 hL20 hcs2 hSx hiA0 hiB0 hgA0 hg20
  clear HFRW0 HS40 HS10 HSW0 HFW90 HR90 HN90 HN00 HN10 HN20
  go_wp2_with fail
  clear KC0
  obtain ⟨y1,hy1⟩:∃y,ls[1]! =y:=⟨_,rfl⟩
  have hyb1:=HFIT.out.lit _ (get_mem (l:=ls) (i:=1) (by omega))
  rw [hy1] at hyb1
  obtain ⟨-,hya1,hyz1⟩:=hyb1
  have hcy1:lcode y1<L2.ws.length:=by
   rw [H2.out.lenw,HOK1.out.wl]
   exact code_lt (v:=S.vars) hya1 hyz1
  obtain ⟨cy1,hcz1⟩:∃c,lcode y1=c:=⟨_,rfl⟩
  have hvl1:=HVL.out
  have KC1:=Lib.hid (fun W'=>code_calls W' y1 (by omega) (by omega))
  have HCY1:=Lib.hid hcz1
  simp only [hcz1] at KC1
  rw [hcz1] at hcy1
  obtain ⟨gw1,hgw1,sw1,fw1⟩:=H2.out.whd hcy1
  have hr91:=H2.out.ewh cy1 hcy1
  have hl91:=HOK1.out.room cy1
  have hw91:=H2.out.wat_eq hcy1
  unfold Sv.wat at hw91
  rw [hw91] at hl91
  have hn91:∀j,j∈blks (L2.ws[cy1]!).A→L2.lab j=(L2.id,9,cy1):=H2.out.t9 cy1 hcy1
  obtain ⟨⟨A91,c91,l91⟩,hx91⟩:∃x,L2.ws[cy1]! =x:=⟨_,rfl⟩
  rw [hx91] at sw1 hr91 hl91 hw91 hn91
  simp only at sw1 hr91 hl91 hw91 hn91
  obtain ⟨-,-,-,-,s41,-⟩:=H2.out.cells
  rw [hgw1,HEA1.out] at s41
  have HN01:Hid (L.a∉blks A91):=fun hm=>by
   have e1:=hn91 _ hm
   rw [←HEA1.out,H2.out.t0] at e1
   simp at e1
  have HN11:Hid (ga∉blks A91):=fun hm=>by
   have e1:=hn91 _ hm
   rw [HLG1.out] at e1
   simp at e1
  have HN21:Hid (gw1∉blks A91):=fun hm=>by
   have e1:=hn91 _ hm
   rw [H2.out.t4 gw1 (by rw [hgw1];simp [blks])] at e1
   simp at e1
  have s11:W2.cell? ⟨ga,1,none⟩=some (.int .i64 y1):=by rw [HIW1.out.cell (i:=1) (by omega),hy1]
  have HS41:=Lib.hid s41
  have HS11:=Lib.hid s11
  have HSW1:=Lib.hid sw1
  have HFW91:=Lib.hid fw1
  have HR91:=Lib.hid hr91
  have HN91:=Lib.hid hn91
  have HW91:=Lib.hid hw91
  have HGW1:=Lib.hid hgw1
  have HCYL1:=Lib.hid hcy1
  have hcyi1:cy1<L2.ws.length:=hcy1
  have hcyj1:(cy1:Int)<(L2.ws.length:Int):=by omega
  have hls1:(1:Int)<(ls.length:Int):=by omega
  have hlsn1:1<ls.length:=by omega
  have HLL91:Hid (l91.length<17592186044416):=(by omega:l91.length<17592186044416)
  have HFRW1:Hid (Fr (blks A91) W2 W2):=Fr.refl _ _
  have HY1:=Lib.hid hy1
  clear hgw1 hcy1 hr91 hl91 hw91 hn91 hx91 s41 s11 sw1 fw1 hcz1 hy1
  go_upto_region 4 with fail
  apply tail3 (C:=fun (gA cA:Nat) (wA:World)=>Ints wA (some ⟨gA,0,none⟩) cA (casts l91++[(n:Int)])∧Fr (blks A91) W2 wA∧(gA∈blks A91∨W2.heap.size≤gA))
  ·intro TAIL1
   refine wp_region_noPanic ?_
   refine wp_region_C (fun w':World=>Fr (blks A91) W2 w') 22 (by kernel_rfl) (HFRW1.out.drew) (fun hT0=> ?_)
   apply TB 15 [(0,[]),(1,[]),(2,[]),(3,[3,22]),(4,[]),(5,[]),(6,[6,22]),(8,[]),(9,[]),(10,[]),(11,[11,22]),(12,[]),(13,[]),(14,[14,22]),(18,[])];kernel_rfl;rfl;· (repeat (apply TBc;rfl;rfl;(· intro w hSw;(try (have hSw:=hSw.resolve_left (List.cons_ne_nil _ _);(have s4:=hSw.cellN HN01.out HS41.out;have s1:=hSw.cellN HN11.out HS11.out;have sw:=hSw.cellN HN21.out HSW1.out)));go_simp<;>with_reducible rfl);try simp only [Act.put,q5,q6,q7]));exact TBn
   exact hT0;intro hT0
   have hSx:=hT0.resolve_left (by decide)
   refine wpAnyC_ready (rs:=[7,19]) (by kernel_rfl) (by simp) ?_
   refine ReadyC.cons (o:= ?or4u16) ?hor4u16 ?hstepr4u16 ?_
   case hor4u16=>rfl
   case hstepr4u16=>
    intro K hK
    (go_simp;refine (KC1.out _).mono ?_;rintro e w5 ⟨rfl,rfl⟩;dsimp only)
    refine hK.out _ _ (.inr ?_) (fun hT16=> ?_)
    ·first |exact hSx.then_ hfA1 |exact hSx.alloc _ |exact hSx
    clear hK K
    try simp only [Act.put,q5,q6,q7]
    have hSx:=hT16.resolve_left (by decide)
    refine wpAnyC_ready (rs:=[15,19]) (by kernel_rfl) (by simp) ?_
    refine ReadyC.cons (o:= ?or4u17) ?hor4u17 ?hstepr4u17 ?_
    case hor4u17=>rfl
    case hstepr4u17=>
     intro K hK
     (go_simp;refine (KC1.out _).mono ?_;rintro e w5 ⟨rfl,rfl⟩;dsimp only)
     refine hK.out _ _ (.inr ?_) (fun hT17=> ?_)
     ·first |exact hSx.then_ hfA1 |exact hSx.alloc _ |exact hSx
     clear hK K
     try simp only [Act.put,q5,q6,q7]
     apply TB 2 [(16,[]),(17,[17,22])];kernel_rfl;rfl;· (repeat (apply TBc;rfl;rfl;(· intro w hSw;(try (have hSw:=hSw.resolve_left (List.cons_ne_nil _ _);(have s4:=hSw.cellN HN01.out HS41.out;have s1:=hSw.cellN HN11.out HS11.out;have sw:=hSw.cellN HN21.out HSW1.out)));go_simp<;>with_reducible rfl);try simp only [Act.put,q5,q6,q7]));exact TBn
     exact hT17;intro hT17
     refine R2 19 (by kernel_rfl) (by rfl) hT17 fun K hK hSx=> ?_
     go_simp
     refine hK.out _ _ (.inr ?_) (fun hT20=> ?_)
     ·first |exact hSx.then_ hfA1 |exact hSx.alloc _ |exact hSx
     clear hK K
     try simp only [Act.put,q5,q6,q7]
     refine R2 20 (by kernel_rfl) (by rfl) hT20 fun K hK hSx=> ?_
     (refine step_append_int rfl _ _ rfl A91 c91 (casts l91) _ rfl (casts_len l91).symm ?hownr4u21 _ 1 n rfl ?hcellr4u21 (by rw [casts_len];exact HLL91.out) ?_;(case hownr4u21=>first |exact HR91.out.drew.alloc _ |exact HR91.out.alloc _ |exact HR91.out);(case hcellr4u21=>simp);intro gA1 cA1 wA1 hiA1 hfA1 hgA1 hsA1)
     refine hK.out _ _ (.inr ?_) (fun hT21=> ?_)
     ·first |exact hSx.then_ hfA1 |exact hSx.alloc _ |exact hSx
     clear hK K
     try simp only [Act.put,q5,q6,q7]
     apply TB 1 [(21,[])];kernel_rfl;rfl;· (repeat (apply TBc;rfl;rfl;(· intro w hSw;go_simp<;>with_reducible rfl);try simp only [Act.put,q5,q6,q7]));exact TBn
     exact hT21;intro hT21
     refine R2 22 (by kernel_rfl) (by rfl) hT21 fun K hK hSx=> ?_
     (have sb:=hSx.cellN HN21.out HSW1.out;have fb:World.frozen? _ _=_:=(World.frozen?_of_block (hSx.block gw1 (lt_of_cell HSW1.out) HN21.out)).trans HFW91.out;go_simp)
     refine hK.out _ _ (.inl rfl) (fun hT23=> ?_)
     clear hK K
     try simp only [Act.put,q5,q6,q7]
     refine wpAnyC_done (by kernel_rfl) ?_ _
     refine NoPanic.normal ?_
     exact TAIL1 _ _ _ ⟨hiA1,hSx,hgA1.imp id (fun h=>by rw [h];first |exact Nat.le_refl _ |simp)⟩
    refine ReadyC.cons (o:= ?or4u24) ?hor4u24 ?hstepr4u24 ReadyC.nil
    case hor4u24=>rfl
    intro K hK
    go_simp
    refine hK.out _ _ (.inr ?_) (fun hT17=> ?_)
    ·first |exact hSx.then_ hfA1 |exact hSx.alloc _ |exact hSx
    clear hK K
    try simp only [Act.put,q5,q6,q7]
    refine R2 15 (by kernel_rfl) (by rfl) hT17 fun K hK hSx=> ?_
    (go_simp;refine (KC1.out _).mono ?_;rintro e w5 ⟨rfl,rfl⟩;dsimp only)
    refine hK.out _ _ (.inr ?_) (fun hT18=> ?_)
    ·first |exact hSx.then_ hfA1 |exact hSx.alloc _ |exact hSx
    clear hK K
    try simp only [Act.put,q5,q6,q7]
    apply TB 2 [(16,[]),(17,[17,22])];kernel_rfl;rfl;· (repeat (apply TBc;rfl;rfl;(· intro w hSw;(try (have hSw:=hSw.resolve_left (List.cons_ne_nil _ _);(have s4:=hSw.cellN HN01.out HS41.out;have s1:=hSw.cellN HN11.out HS11.out;have sw:=hSw.cellN HN21.out HSW1.out)));go_simp<;>with_reducible rfl);try simp only [Act.put,q5,q6,q7]));exact TBn
    exact hT18;intro hT18
    refine R2 20 (by kernel_rfl) (by rfl) hT18 fun K hK hSx=> ?_
    (refine step_append_int rfl _ _ rfl A91 c91 (casts l91) _ rfl (casts_len l91).symm ?hownr4u28 _ 1 n rfl ?hcellr4u28 (by rw [casts_len];exact HLL91.out) ?_;(case hownr4u28=>first |exact HR91.out.drew.alloc _ |exact HR91.out.alloc _ |exact HR91.out);(case hcellr4u28=>simp);intro gA1 cA1 wA1 hiA1 hfA1 hgA1 hsA1)
    refine hK.out _ _ (.inr ?_) (fun hT21=> ?_)
    ·first |exact hSx.then_ hfA1 |exact hSx.alloc _ |exact hSx
    clear hK K
    try simp only [Act.put,q5,q6,q7]
    apply TB 1 [(21,[])];kernel_rfl;rfl;· (repeat (apply TBc;rfl;rfl;(· intro w hSw;go_simp<;>with_reducible rfl);try simp only [Act.put,q5,q6,q7]));exact TBn
    exact hT21;intro hT21
    refine R2 22 (by kernel_rfl) (by rfl) hT21 fun K hK hSx=> ?_
    (have sb:=hSx.cellN HN21.out HSW1.out;have fb:World.frozen? _ _=_:=(World.frozen?_of_block (hSx.block gw1 (lt_of_cell HSW1.out) HN21.out)).trans HFW91.out;go_simp)
    refine hK.out _ _ (.inl rfl) (fun hT23=> ?_)
    clear hK K
    try simp only [Act.put,q5,q6,q7]
    refine wpAnyC_done (by kernel_rfl) ?_ _
    refine NoPanic.normal ?_
    exact TAIL1 _ _ _ ⟨hiA1,hSx,hgA1.imp id (fun h=>by rw [h];first |exact Nat.le_refl _ |simp)⟩
   refine ReadyC.cons (o:= ?or4u31) ?hor4u31 ?hstepr4u31 ReadyC.nil
   case hor4u31=>rfl
   intro K hK
   go_simp
   refine hK.out _ _ (.inr ?_) (fun hT16=> ?_)
   ·first |exact hSx.then_ hfA1 |exact hSx.alloc _ |exact hSx
   clear hK K
   try simp only [Act.put,q5,q6,q7]
   refine R2 7 (by kernel_rfl) (by rfl) hT16 fun K hK hSx=> ?_
   (go_simp;refine (KC1.out _).mono ?_;rintro e w5 ⟨rfl,rfl⟩;dsimp only)
   refine hK.out _ _ (.inr ?_) (fun hT17=> ?_)
   ·first |exact hSx.then_ hfA1 |exact hSx.alloc _ |exact hSx
   clear hK K
   try simp only [Act.put,q5,q6,q7]
   refine R2 15 (by kernel_rfl) (by rfl) hT17 fun K hK hSx=> ?_
   (go_simp;refine (KC1.out _).mono ?_;rintro e w5 ⟨rfl,rfl⟩;dsimp only)
   refine hK.out _ _ (.inr ?_) (fun hT18=> ?_)
   ·first |exact hSx.then_ hfA1 |exact hSx.alloc _ |exact hSx
   clear hK K
   try simp only [Act.put,q5,q6,q7]
   apply TB 2 [(16,[]),(17,[17,22])];kernel_rfl;rfl;· (repeat (apply TBc;rfl;rfl;(· intro w hSw;(try (have hSw:=hSw.resolve_left (List.cons_ne_nil _ _);(have s4:=hSw.cellN HN01.out HS41.out;have s1:=hSw.cellN HN11.out HS11.out;have sw:=hSw.cellN HN21.out HSW1.out)));go_simp<;>with_reducible rfl);try simp only [Act.put,q5,q6,q7]));exact TBn
   exact hT18;intro hT18
   refine R2 20 (by kernel_rfl) (by rfl) hT18 fun K hK hSx=> ?_
   (refine step_append_int rfl _ _ rfl A91 c91 (casts l91) _ rfl (casts_len l91).symm ?hownr4u36 _ 1 n rfl ?hcellr4u36 (by rw [casts_len];exact HLL91.out) ?_;(case hownr4u36=>first |exact HR91.out.drew.alloc _ |exact HR91.out.alloc _ |exact HR91.out);(case hcellr4u36=>simp);intro gA1 cA1 wA1 hiA1 hfA1 hgA1 hsA1)
   refine hK.out _ _ (.inr ?_) (fun hT21=> ?_)
   ·first |exact hSx.then_ hfA1 |exact hSx.alloc _ |exact hSx
   clear hK K
   try simp only [Act.put,q5,q6,q7]
   apply TB 1 [(21,[])];kernel_rfl;rfl;· (repeat (apply TBc;rfl;rfl;(· intro w hSw;go_simp<;>with_reducible rfl);try simp only [Act.put,q5,q6,q7]));exact TBn
   exact hT21;intro hT21
   refine R2 22 (by kernel_rfl) (by rfl) hT21 fun K hK hSx=> ?_
   (have sb:=hSx.cellN HN21.out HSW1.out;have fb:World.frozen? _ _=_:=(World.frozen?_of_block (hSx.block gw1 (lt_of_cell HSW1.out) HN21.out)).trans HFW91.out;go_simp)
   refine hK.out _ _ (.inl rfl) (fun hT23=> ?_)
   clear hK K
   try simp only [Act.put,q5,q6,q7]
   refine wpAnyC_done (by kernel_rfl) ?_ _
   refine NoPanic.normal ?_
   exact TAIL1 _ _ _ ⟨hiA1,hSx,hgA1.imp id (fun h=>by rw [h];first |exact Nat.le_refl _ |simp)⟩
  ·intro gA1 cA1 wA1 ⟨hiA1,hSx,hgA1⟩
   have hiB1:Ints wA1 (some ⟨gA1,0,none⟩) cA1 (casts (l91++[n])):=by rw [←casts_app];exact hiA1
   obtain ⟨gv1,hg21,_,_,L3,h21,he21,hf21,hL21⟩:=H2.out.wset HCYL1.out hiB1 hSx (fun j hj _=>HN91.out j hj) (fun j hj=>by
    simp [blks] at hj
    subst hj
    exact hgA1.imp (fun h5=>⟨(HR91.out.lt _ h5),HN91.out _ h5⟩) id)
   obtain rfl :gw1=gv1:=by rw [HGW1.out] at hg21;simpa using hg21
   simp only [List.length_append,List.length_singleton] at h21 hf21
   have hS3:((S.newc ls b).wput (lcode ls[0]!) S.list.length).wset cy1 (l91++[n])=S.attach ls b:=by
    show _=((S.newc ls b).wput (lcode ls[0]!) S.list.length).wput (lcode ls[1]!) S.list.length
    have hw:=HW91.out
    revert hw
    generalize (S.newc ls b).wput (lcode ls[0]!) S.list.length=T
    intro hw
    unfold Sv.wput Sv.wat
    rw [HY1.out,HCY1.out,hw,HNS.out]
   rw [hS3] at h21
   have hcs3:L3.cs=L0.cs++[⟨some ⟨ga,0,none⟩,c,ls,b,S.used⟩]:=by rw [hL21];exact HCS2.out
   have hI3:=h21.ech n (by rw [hcs3,List.length_append,HN.out];simp)
   rw [hcs3,show (L0.cs++[(⟨some ⟨ga,0,none⟩,c,ls,b,S.used⟩:Cw)])[n]! =⟨some ⟨ga,0,none⟩,c,ls,b,S.used⟩ from by rw [←HN.out];simp] at hI3
   have FIN:=Lib.hid (hbk.out _ L3 h21 (SvL.ext_trans HE2.out he21 HF2.out.size) (SvL.own_then HE2.out HF2.out hf21) hI3 ((by rw [hL21]:L3.tL=L2.tL).trans HTL2.out))
   clear hcs3 hI3
   clear h21 hf21 he21 hL21 hS3 hSx hiA1 hiB1 hgA1 hg21 hbk
   go_wp2_with fail
   go_ret
   exact FIN.out
structure T3 where
 a:Int
 b:Int
 c:Int
instance:Inhabited T3:=⟨⟨0,0,0⟩⟩
structure Nm where
 k:ByteArray
 i:Int
 t:ByteArray
instance:Inhabited Nm:=⟨⟨⟨#[]⟩,0,⟨#[]⟩⟩⟩
structure Pc where
 mx:Int
 ins:List Int
 lat:List T3
 outs:List Int
 bads:List Int
 invs:List Int
 ands:List T3
 nms:List Nm
structure Hd where
 iA:Option Addr
 iC:Nat
 lA:Option Addr
 lC:Nat
 oA:Option Addr
 oC:Nat
 bA:Option Addr
 bC:Nat
 vA:Option Addr
 vC:Nat
 gA:Option Addr
 gC:Nat
 nA:Option Addr
 nC:Nat
def cvs (H:Hd) (C:Pc):Array Value:=
 #[.int .i64 C.mx, .slice H.iA C.ins.length H.iC, .slice H.lA C.lat.length H.lC, .slice H.oA C.outs.length H.oC, .slice H.bA C.bads.length H.bC, .slice H.vA C.invs.length H.vC, .slice H.gA C.ands.length H.gC, .slice H.nA C.nms.length H.nC]
def cval (H:Hd) (C:Pc):Value:= .agg (cvs H C)
def RdT (w:World) (A:Option Addr) (l:List T3):Prop:=0<l.length→∃b o,A=some ⟨b,o,none⟩∧
 ∀j:Nat,j<l.length→w.cell? ⟨b,o+j*3,none⟩=some (.int .i64 (l[j]!).a)∧w.cell? ⟨b,o+j*3+1,none⟩=some (.int .i64 (l[j]!).b)∧w.cell? ⟨b,o+j*3+2,none⟩=some (.int .i64 (l[j]!).c)
def RdM (w:World) (A:Option Addr) (l:List Nm):Prop:=0<l.length→∃b o,A=some ⟨b,o,none⟩∧
 ∀j:Nat,j<l.length→w.cell? ⟨b,o+j*3,none⟩=some (.string (l[j]!).k)∧w.cell? ⟨b,o+j*3+1,none⟩=some (.int .i64 (l[j]!).i)∧w.cell? ⟨b,o+j*3+2,none⟩=some (.string (l[j]!).t)
theorem RdT.keep {w w':World} {A:Option Addr} {l:List T3} (h:RdT w A l) (hf:Fr [] w w'):RdT w' A l:=by
 intro h0
 obtain ⟨b,o,hA,hx⟩:=h h0
 exact ⟨b,o,hA,fun j hj=>⟨hf.cellS (hx j hj).1,hf.cellS (hx j hj).2.1,hf.cellS (hx j hj).2.2⟩⟩
theorem RdM.keep {w w':World} {A:Option Addr} {l:List Nm} (h:RdM w A l) (hf:Fr [] w w'):RdM w' A l:=by
 intro h0
 obtain ⟨b,o,hA,hx⟩:=h h0
 exact ⟨b,o,hA,fun j hj=>⟨hf.cellS (hx j hj).1,hf.cellS (hx j hj).2.1,hf.cellS (hx j hj).2.2⟩⟩
def R64 (x:Int):Prop:= -9223372036854775808≤x∧x≤9223372036854775807
def Ra (l:List Int):Prop:=∀j:Nat,j<l.length→R64 l[j]!
def Rt (l:List T3):Prop:=∀j:Nat,j<l.length→R64 (l[j]!).a∧R64 (l[j]!).b∧R64 (l[j]!).c
def Rm (l:List Nm):Prop:=∀j:Nat,j<l.length→(l[j]!).k.size≤maxLen∧R64 (l[j]!).i∧(l[j]!).t.size≤maxLen
structure CiAt (w:World) (H:Hd) (C:Pc):Prop where
 i:Rd w H.iA C.ins
 l:RdT w H.lA C.lat
 o:Rd w H.oA C.outs
 b:Rd w H.bA C.bads
 v:Rd w H.vA C.invs
 g:RdT w H.gA C.ands
 n:RdM w H.nA C.nms
 iL:C.ins.length≤17592186044416
 lL:C.lat.length≤5864062014635
 oL:C.outs.length≤17592186044416
 bL:C.bads.length≤17592186044416
 vL:C.invs.length≤17592186044416
 gL:C.ands.length≤5864062014635
 nL:C.nms.length≤3518437208781
 mr:R64 C.mx
 ir:Ra C.ins
 lr:Rt C.lat
 or_:Ra C.outs
 br:Ra C.bads
 vr:Ra C.invs
 gr:Rt C.ands
 nr:Rm C.nms
theorem CiAt.keep {w w':World} {H:Hd} {C:Pc} (h:CiAt w H C) (hf:Fr [] w w'):CiAt w' H C:=
 ⟨h.i.keep hf,h.l.keep hf,h.o.keep hf,h.b.keep hf,h.v.keep hf,h.g.keep hf,h.n.keep hf,h.iL,h.lL,h.oL,h.bL,h.vL,h.gL,h.nL,h.mr,h.ir,h.lr,h.or_,h.br,h.vr,h.gr,h.nr⟩
theorem box_at (w:World) (H:Hd) (C:Pc):At (w.alloc (.cells (cvs H C) 27)) w.heap.size 27 (cvs H C):=At.new w _ _
theorem box_fr (w:World) (o:Obj):Fr [] w (w.alloc o):=(Fr.refl [] w).alloc o
structure Cx (w wr:World) (H:Hd) (C:Pc):Prop where
 fr:Fr [] w wr
 bx:At wr w.heap.size 27 (cvs H C)
theorem Cx.start (w:World) (H:Hd) (C:Pc):Cx w (w.alloc (.cells (cvs H C) 27)) H C:=⟨box_fr _ _,box_at _ _ _⟩
theorem Cx.keep {w wr w':World} {H:Hd} {C:Pc} (h:Cx w wr H C) (hf:Fr [] wr w'):Cx w w' H C:=⟨h.fr.then_ hf,h.bx.keep hf⟩
theorem At.cells8 {w:World} {g:Nat} {t:TypeId} {H:Hd} {C:Pc} (h:At w g t (cvs H C)):
  w.cell? ⟨g,0,none⟩=some (.int .i64 C.mx)∧w.cell? ⟨g,1,none⟩=some (.slice H.iA C.ins.length H.iC)∧w.cell? ⟨g,2,none⟩=some (.slice H.lA C.lat.length H.lC)∧w.cell? ⟨g,3,none⟩=some (.slice H.oA C.outs.length H.oC)∧
  w.cell? ⟨g,4,none⟩=some (.slice H.bA C.bads.length H.bC)∧w.cell? ⟨g,5,none⟩=some (.slice H.vA C.invs.length H.vC)∧w.cell? ⟨g,6,none⟩=some (.slice H.gA C.ands.length H.gC)∧w.cell? ⟨g,7,none⟩=some (.slice H.nA C.nms.length H.nC):=by
 refine ⟨?_,?_,?_,?_,?_,?_,?_,?_⟩<;>(rw [h.cell];rfl)
theorem Cx.cells {w wr:World} {H:Hd} {C:Pc} (h:Cx w wr H C):
  wr.cell? ⟨w.heap.size,0,none⟩=some (.int .i64 C.mx)∧wr.cell? ⟨w.heap.size,1,none⟩=some (.slice H.iA C.ins.length H.iC)∧wr.cell? ⟨w.heap.size,2,none⟩=some (.slice H.lA C.lat.length H.lC)∧wr.cell? ⟨w.heap.size,3,none⟩=some (.slice H.oA C.outs.length H.oC)∧
  wr.cell? ⟨w.heap.size,4,none⟩=some (.slice H.bA C.bads.length H.bC)∧wr.cell? ⟨w.heap.size,5,none⟩=some (.slice H.vA C.invs.length H.vC)∧wr.cell? ⟨w.heap.size,6,none⟩=some (.slice H.gA C.ands.length H.gC)∧wr.cell? ⟨w.heap.size,7,none⟩=some (.slice H.nA C.nms.length H.nC):=h.bx.cells8
theorem Cx.ext {w wr:World} {H:Hd} {C:Pc} (h:Cx w wr H C):
  (∀u:Ext wr,u.v.cell? ⟨w.heap.size,0,none⟩=some (.int .i64 C.mx))∧(∀u:Ext wr,u.v.cell? ⟨w.heap.size,1,none⟩=some (.slice H.iA C.ins.length H.iC))∧(∀u:Ext wr,u.v.cell? ⟨w.heap.size,2,none⟩=some (.slice H.lA C.lat.length H.lC))∧(∀u:Ext wr,u.v.cell? ⟨w.heap.size,3,none⟩=some (.slice H.oA C.outs.length H.oC))∧
  (∀u:Ext wr,u.v.cell? ⟨w.heap.size,4,none⟩=some (.slice H.bA C.bads.length H.bC))∧(∀u:Ext wr,u.v.cell? ⟨w.heap.size,5,none⟩=some (.slice H.vA C.invs.length H.vC))∧(∀u:Ext wr,u.v.cell? ⟨w.heap.size,6,none⟩=some (.slice H.gA C.ands.length H.gC))∧(∀u:Ext wr,u.v.cell? ⟨w.heap.size,7,none⟩=some (.slice H.nA C.nms.length H.nC)):=by
 obtain ⟨c0,c1,c2,c3,c4,c5,c6,c7⟩:=h.cells
 exact ⟨Ext.cell c0,Ext.cell c1,Ext.cell c2,Ext.cell c3,Ext.cell c4,Ext.cell c5,Ext.cell c6,Ext.cell c7⟩
theorem Rd.one {w:World} {A:Option Addr} {l:List Int} (h:Rd w A l) (hr:Ra l) {j:Nat} (hj:j<l.length):∃b o x,A=some ⟨b,o,none⟩∧Hid (l[j]! =x)∧w.cell? ⟨b,o+j,none⟩=some (.int .i64 x)∧ -9223372036854775808≤x∧x≤9223372036854775807:=by
 obtain ⟨b,o,hA,hx⟩:=h (by omega)
 exact ⟨b,o,_,hA,rfl,hx j hj,hr j hj⟩
theorem RdT.one {w:World} {A:Option Addr} {l:List T3} (h:RdT w A l) (hr:Rt l) {j:Nat} (hj:j<l.length):∃b o x y z,A=some ⟨b,o,none⟩∧Hid (l[j]! =⟨x,y,z⟩)∧
  w.cell? ⟨b,o+j*3,none⟩=some (.int .i64 x)∧w.cell? ⟨b,o+j*3+1,none⟩=some (.int .i64 y)∧w.cell? ⟨b,o+j*3+2,none⟩=some (.int .i64 z)∧
  (-9223372036854775808≤x∧x≤9223372036854775807)∧(-9223372036854775808≤y∧y≤9223372036854775807)∧(-9223372036854775808≤z∧z≤9223372036854775807):=by
 obtain ⟨b,o,hA,hx⟩:=h (by omega)
 obtain ⟨h1,h2,h3⟩:=hx j hj
 exact ⟨b,o,_,_,_,hA,rfl,h1,h2,h3,hr j hj⟩
theorem RdM.one {w:World} {A:Option Addr} {l:List Nm} (h:RdM w A l) (hr:Rm l) {j:Nat} (hj:j<l.length):∃b o x y z,A=some ⟨b,o,none⟩∧Hid (l[j]! =⟨x,y,z⟩)∧
  w.cell? ⟨b,o+j*3,none⟩=some (.string x)∧w.cell? ⟨b,o+j*3+1,none⟩=some (.int .i64 y)∧w.cell? ⟨b,o+j*3+2,none⟩=some (.string z)∧
  x.size≤maxLen∧(-9223372036854775808≤y∧y≤9223372036854775807)∧z.size≤maxLen:=by
 obtain ⟨b,o,hA,hx⟩:=h (by omega)
 obtain ⟨h1,h2,h3⟩:=hx j hj
 exact ⟨b,o,_,_,_,hA,rfl,h1,h2,h3,hr j hj⟩
def hit (v x:Int):Bool:=decide (0≤x)&&decide (x/2=v)
def knownB (C:Pc) (v:Int):Bool:=decide (v=0) ||C.ins.any (hit v) ||C.lat.any (fun x=>hit v x.a) ||C.ands.any (fun x=>hit v x.a)
theorem any_hit {α:Type} [Inhabited α] (l:List α) (p:α→Bool):(l.any p=true↔∃j:Nat,j<l.length∧p l[j]! =true):=by
 rw [List.any_eq_true]
 constructor
 ·rintro ⟨x,hx,h⟩
  obtain ⟨j,hj,e⟩:=List.mem_iff_getElem.1 hx
  exact ⟨j,hj,by simp [hj,e,h]⟩
 ·rintro ⟨j,hj,h⟩
  simp only [List.getElem!_eq_getElem?_getD,List.getElem?_eq_getElem hj,Option.getD_some] at h
  exact ⟨l[j],List.getElem_mem hj,h⟩
theorem any_not {α:Type} [Inhabited α] (l:List α) (p:α→Bool) (h:∀j:Nat,j<l.length→p l[j]! =false):l.any p=false:=by
 rw [Bool.eq_false_iff]
 intro hh
 obtain ⟨j,hj,h1⟩:=(any_hit l p).1 hh
 rw [h j hj] at h1;cases h1
theorem any_yes {α:Type} [Inhabited α] (l:List α) (p:α→Bool) (k:Nat) (hk:k<l.length) (h:p l[k]! =true):l.any p=true:=(any_hit l p).2 ⟨k,hk,h⟩
def NoneTo {α:Type} [Inhabited α] (l:List α) (p:α→Bool) (k:Nat):Prop:=∀j:Nat,j<k→p l[j]! =false
theorem NoneTo.zero {α:Type} [Inhabited α] (l:List α) (p:α→Bool):NoneTo l p 0:=fun j hj=>absurd hj (Nat.not_lt_zero _)
theorem NoneTo.step {α:Type} [Inhabited α] {l:List α} {p:α→Bool} {k:Nat} (h:NoneTo l p k) (hk:p l[k]! =false):NoneTo l p (k+1):=fun j hj=>by
 by_cases e:j=k
 ·subst e;exact hk
 ·exact h j (by omega)
theorem NoneTo.all {α:Type} [Inhabited α] {l:List α} {p:α→Bool} {k:Nat} (h:NoneTo l p k) (hk:¬k<l.length):l.any p=false:=any_not l p fun j hj=>h j (by omega)
def litB (C:Pc) (l:Int):Bool:=decide (0≤l)&&knownB C (l/2)
def allB (C:Pc) (l:List Int):Bool:=l.all (litB C)&&decide ((l.length:Int)≤64)
def cnt (C:Pc) (k:ByteArray):Int:=
 if (k.toList==[105])=true then C.ins.length else if (k.toList==[108])=true then C.lat.length else if (k.toList==[111])=true then C.outs.length else if (k.toList==[98])=true then C.bads.length else if (k.toList==[99])=true then C.invs.length else -1
def rk (k:ByteArray):Int:=if (k.toList==[105])=true then 0 else if (k.toList==[108])=true then 1 else if (k.toList==[111])=true then 2 else if (k.toList==[98])=true then 3 else if (k.toList==[99])=true then 4 else -1
theorem seq_or (a b:List UInt8):(a==b)=true∨(a==b)=false:=by cases (a==b)<;>simp
def badCh (c:UInt8):Bool:=decide ((c.toNat:Int)<33) ||decide (126<(c.toNat:Int))
def txtBad (t:ByteArray):Bool:=t.data.toList.any badCh
def headB (C:Pc) (x:Nm):Bool:=decide (0≤x.i)&&decide (x.i<cnt C x.k)&& !x.t.toList.isEmpty&&decide ((x.t.size:Int)≤32)
def nameB (C:Pc) (x:Nm):Bool:=headB C x&& !txtBad x.t
def pairBad (y x:Nm):Bool:=decide (rk x.k<rk y.k) || (y.k.toList==x.k.toList)&&decide (x.i≤y.i)
def NamesTo (C:Pc) (k:Nat):Prop:=∀j:Nat,j<k→nameB C C.nms[j]! =true∧(0<j→pairBad C.nms[j-1]! C.nms[j]! =false)
def namesB (C:Pc):Bool:=(List.range C.nms.length).all fun j=>nameB C C.nms[j]! &&(j==0 || !pairBad C.nms[j-1]! C.nms[j]!)
theorem names_iff (C:Pc):namesB C=true↔NamesTo C C.nms.length:=by
 unfold namesB NamesTo
 rw [List.all_eq_true]
 constructor
 ·intro h j hj
  have :=h j (List.mem_range.2 hj)
  simp only [Bool.and_eq_true,Bool.or_eq_true,beq_iff_eq,Bool.not_eq_true'] at this
  exact ⟨this.1,fun h0=>this.2.resolve_left (by omega)⟩
 ·intro h j hj
  obtain ⟨h1,h2⟩:=h j (List.mem_range.1 hj)
  simp only [Bool.and_eq_true,Bool.or_eq_true,beq_iff_eq,Bool.not_eq_true']
  refine ⟨h1,?_⟩
  by_cases e:j=0
  ·exact .inl e
  ·exact .inr (h2 (by omega))
theorem adr_add (g o n:Nat):(Addr.mk g o none).add n=⟨g,o+n,none⟩:=by unfold Addr.add;split<;>simp_all
def rstB (x:T3):Bool:=decide (x.c=0) ||decide (x.c=1) ||decide (x.c=x.a)
def latB (C:Pc) (x:T3):Bool:=rstB x&&litB C x.b
def andB (C:Pc) (p:Option Int) (x:T3):Bool:=(match p with |none=>true |some q=>decide (q<x.a))&&decide (x.b<x.a)&&decide (x.c<x.a)&&litB C x.b&&litB C x.c
def prv (l:List T3) (j:Nat):Option Int:=if j=0 then none else some (l[j-1]!).a
def ownL (C:Pc):List Int:=C.ins++C.lat.map (fun x=>x.a)++C.ands.map (fun x=>x.a)
def ownB (C:Pc) (l:List Int) (i:Nat):Bool:=decide (2≤l[i]!)&&decide (l[i]! %2=0)&&decide (l[i]! ≤2*C.mx)&& !decide (l[i]! ∈l.take i)
structure Valid (C:Pc):Prop where
 m0:0≤C.mx
 m1:C.mx≤2048
 i:C.ins.length≤64
 l:C.lat.length≤64
 n:namesB C=true
 lat:∀j:Nat,j<C.lat.length→latB C C.lat[j]! =true
 ands:∀j:Nat,j<C.ands.length→andB C (prv C.ands j) C.ands[j]! =true
 own:∀j:Nat,j<(ownL C).length→ownB C (ownL C) j=true
 o:allB C C.outs=true
 b:allB C C.bads=true
 v:allB C C.invs=true
def ChkP (C:Pc) (w:World) (e:Ending) (w':World):Prop:=((e= .returned (.int .i64 0)∧Valid C)∨(e= .returned (.int .i64 9)∧¬Valid C))∧Fr [] w w'
theorem chk_no {C:Pc} {w w':World} (h:¬Valid C) (hf:Fr [] w w'):ChkP C w (.returned (.int .i64 9)) w':=⟨.inr ⟨rfl,h⟩,hf⟩
theorem chk_yes {C:Pc} {w w':World} (h:Valid C) (hf:Fr [] w w'):ChkP C w (.returned (.int .i64 0)) w':=⟨.inl ⟨rfl,h⟩,hf⟩
def OwnTo (C:Pc) (l:List Int) (k:Nat):Prop:=∀j:Nat,j<k→ownB C l j=true
theorem OwnTo.step {C:Pc} {l:List Int} {k:Nat} (h:OwnTo C l k) (h1:ownB C l k=true):OwnTo C l (k+1):=fun j hj=>by
 by_cases e:j=k
 ·subst e;exact h1
 ·exact h j (by omega)
theorem wraps_i64_63 (n:Int) (h₀:0≤n) (h₁:n<2^63):IntKind.i64.wrap n=n:=by rw [IntKind.wrap_i64];omega
theorem bits_and1 {l:Int} (h:0≤l) (h2:l≤9223372036854775807):bits BinOp.and IntKind.i64 l 1=l%2:=by
 have :=bits_mask .i64 63 (by decide) wraps_i64_63 1 (by decide) l h (by omega)
 simpa using this
theorem lvar_nn (w:World) (l:Int) (h:0≤l) (h2:l≤9223372036854775807):
  Calls Tryz.prog 90 #[.int .i64 l] w fun e w'=>e= .returned (.int .i64 (l/2))∧w=w':=by
 go_enter Tryz.func90,Tryz.ntmps90
 go_wp2_with fail
 go_ret
 exact ⟨rfl,rfl⟩
theorem lvar_neg (w:World) (l:Int) (h:l<0):
  Calls Tryz.prog 90 #[.int .i64 l] w fun e w'=>e= .returned (.int .i64 0)∧w=w':=by
 go_enter Tryz.func90,Tryz.ntmps90
 go_wp2_with fail
 go_ret
 exact ⟨rfl,rfl⟩
theorem lneg_nn (w:World) (l:Int) (h:0≤l) (h2:l≤9223372036854775807):
  Calls Tryz.prog 116 #[.int .i64 l] w fun e w'=>e= .returned (.bool (l%2==1))∧w=w':=by
 have HB:=Lib.hid (bits_and1 h h2)
 go_enter Tryz.func116,Tryz.ntmps116
 go_wp2_with fail
 go_ret
 exact ⟨by rw [←HB.out];rfl,rfl⟩
def Asks (w:World) (g:Nat) (cb:Array Value) (p:Int→Bool) (xs:List Int):Prop:=∀W,Fr [] w W→∀x,x∈xs→R64 x→
 Calls Tryz.prog g (#[.int .i64 x]++cb) W fun e w'=>e= .returned (.bool (p x))∧Fr [] W w'
theorem mem_get {α:Type} [Inhabited α] {l:List α} {k:Nat} (h:k<l.length):l[k]! ∈l:=by
 rw [List.getElem!_eq_getElem?_getD,List.getElem?_eq_getElem h]
 exact List.getElem_mem h
def IxP (b:Bool) (w:World) (e:Ending) (w':World):Prop:=∃n:Int,e= .returned (.int .i64 n)∧ -1≤n∧n≤9223372036854775807∧decide (0≤n)=b∧Fr [] w w'
theorem index_ints (w:World) (A:Option Addr) (c:Nat) (xs:List Int) (g:Nat) (cb:Array Value) (p:Int→Bool) (eg:∀args w,(callFunc g args).run Tryz.prog w= .ok (.enter g args) w) (h:Rd w A xs) (hr:Ra xs) (hl:xs.length≤17592186044416) (hp:Asks w g cb p xs):
  Calls Tryz.prog 97 #[.slice A xs.length c, .func (.func g) #[] cb] w (IxP (xs.any p) w):=by
 have HH:=Lib.hid h
 have HR:=Lib.hid hr
 have HP:=Lib.hid hp
 have YES:Hid (∀(n:Nat) W,n≤17592186044416→xs.any p=true→Fr [] w W→IxP (xs.any p) w (.returned (.int .i64 (n:Int))) W):=fun n W h1 h2 h3=>⟨n,rfl,by omega,by omega,by rw [h2];exact decide_eq_true (by omega),h3⟩
 have NO:Hid (∀W,xs.any p=false→Fr [] w W→IxP (xs.any p) w (.returned (.int .i64 (-1))) W):=fun W h2 h3=>⟨-1,rfl,by omega,by omega,by rw [h2];rfl,h3⟩
 clear h hr hp
 go_enter Tryz.func97,Tryz.ntmps97
 go_wp2_with fail
 go_loopg [8] xs.length (fun g i wr=>∃k:Nat,k+g=xs.length∧i= .int .i64 k∧Fr [] w wr∧NoneTo xs p k)
 case atStart=>exact ⟨0,by omega,rfl,Fr.refl _ _,NoneTo.zero _ _⟩
 case round=>
  obtain ⟨k,hk,rfl,hx,hn⟩:=hrel
  have HK:=Lib.hid hk
  have HX:=Lib.hid hx
  have HN:=Lib.hid hn
  have hkn:k≤xs.length:=by omega
  clear hk hx hn
  by_cases hlt:k<xs.length
  ·obtain ⟨b,o,x,hA,he,cx,hx1,hx2⟩:=(HH.out.keep HX.out).one HR.out hlt
   subst hA
   obtain ⟨q,HQ⟩:∃q,Hid (p x=q):=⟨_,rfl⟩
   have HC:=Lib.hid (HP.out wr HX.out x (by rw [←he.out];exact mem_get hlt) ⟨hx1,hx2⟩)
   go_wp2_with fail
   refine HC.out.mono ?_
   rw [HQ.out]
   rintro e w2 ⟨rfl,hf⟩
   have HF:=Lib.hid (HX.out.then_ hf)
   clear hf
   cases q with
   |true=>
    go_wp2_with fail
    go_ret
    exact YES.out k _ (by omega) (any_yes _ _ k hlt (by rw [he.out];exact HQ.out)) HF.out
   |false=>
    go_wp2_with fail
    go_roundg (gk-1)
    case measure=>have :=HK.out;omega
    case rel=>exact ⟨k+1,by have :=HK.out;omega,by go_num,HF.out,HN.out.step (by rw [he.out];exact HQ.out)⟩
  ·have HT:=Lib.hid (HN.out.all hlt)
   clear HN HK
   go_wp2_with fail
   go_ret
   exact NO.out _ HT.out HX.out
theorem contains_ints (w:World) (A:Option Addr) (c:Nat) (xs:List Int) (g:Nat) (cb:Array Value) (p:Int→Bool) (eg:∀args w,(callFunc g args).run Tryz.prog w= .ok (.enter g args) w) (h:Rd w A xs) (hr:Ra xs) (hl:xs.length≤17592186044416) (hp:Asks w g cb p xs):
  Calls Tryz.prog 54 #[.slice A xs.length c, .func (.func g) #[] cb] w fun e w'=>e= .returned (.bool (xs.any p))∧Fr [] w w':=by
 have HC:=Lib.hid (index_ints w A c xs g cb p eg h hr hl hp)
 clear h hr hp
 go_enter Tryz.func54,Tryz.ntmps54
 go_wp2_with fail
 refine HC.out.mono ?_
 rintro e w2 ⟨n,rfl,h1,h2,h3,hf⟩
 have H3:=Lib.hid h3
 have HF:=Lib.hid hf
 clear h3 hf
 go_wp2_with fail
 go_ret
 exact ⟨by rw [←H3.out];rfl,HF.out⟩
theorem wf64 {v:Int} (h:R64 v):(Lit.int IntKind.i64 v).wf=true:=by
 unfold R64 at h
 simp [Lit.wf,IntKind.min,IntKind.max,IntKind.signed,IntKind.bits]
 omega
theorem keyI {v:Int} (h:R64 v):keyOf Tryz.prog 3 (.int .i64 v)=some (.int .i64 v):=Maps.keyOf_int_mk Tryz.underlying3 (wf64 h)
theorem zeroS (w:World):(zeroValue 9).run Tryz.prog w= .ok (.string ⟨#[]⟩) w:=by kernel_rfl
theorem elemS_inv {P:Program} {e:TypeId} (he:P.underlying e=some .string) {v:Value} {z:DataW Unit×List MemPlace} (h:plainElem P e v=some z):∃s:ByteArray,v= .string s∧z=(.lit (.string s.data.toList),[]):=by
 unfold plainElem at h
 rw [he] at h
 cases v<;>simp at h
 obtain ⟨_,rfl⟩:=h
 exact ⟨_,rfl,rfl⟩
def Met (w:World) (b n:Nat) (f:Int→List UInt8):Prop:=∃D:DataW Unit,w.ownsMap Tryz.prog 3 (plainElem Tryz.prog 9) b n D∧∀v,R64 v→D.atKey (.int .i64 v) (.lit (.string []))= .lit (.string (f v))
theorem Met.lt {w:World} {b n:Nat} {f:Int→List UInt8} (h:Met w b n f):b<w.heap.size:=by
 obtain ⟨D,h1,_⟩:=h
 exact h1.lt
theorem Met.fr {w w':World} {S:List Nat} {b n:Nat} {f:Int→List UInt8} (h:Met w b n f) (hf:Fr S w w') (hn:b∉S):Met w' b n f:=by
 have hlt:=h.lt
 obtain ⟨D,⟨es,clock,hb,F,hs,hD⟩,h2⟩:=h
 exact ⟨D,⟨es,clock,(hf.block b hlt hn).trans hb,F,hs,hD⟩,h2⟩
theorem Met.keep {w w':World} {b n:Nat} {f:Int→List UInt8} (h:Met w b n f) (hf:Fr [] w w'):Met w' b n f:=h.fr hf (by simp)
theorem Met.new (w:World):Met (w.alloc (.map #[] 0)) w.heap.size 0 (fun _=>[]):=
 ⟨.map [],World.ownsMap_made w _ _ _,fun v _=>rfl⟩
theorem look_gen {P:Program} {k e t:TypeId} (K:Maps.Keyed P k) (ht:P.underlying t=some (.map k e)) (he:P.underlying e=some .string) {w:World} (hz:(zeroValue e).run P w= .ok (.string ⟨#[]⟩) w) {b n:Nat} {D:DataW Unit}
  (h1:w.ownsMap P k (plainElem P e) b n D) {key:Value} {kl:Lit} (hkey:keyOf P k key=some kl) {s:List UInt8} (h2:D.atKey kl (.lit (.string []))= .lit (.string s)):
  (Instr.lookup t (.map (some b)) key false).run P w= .ok (.string ⟨s.toArray⟩) w:=by
 obtain ⟨x,ps,hr,hx⟩:=h1.lookup K ht hz (plainElem_string he (by simp [maxLen,ByteArray.size])) hkey
 obtain ⟨y,rfl,hz⟩:=elemS_inv he hx
 have h4:=(Prod.mk.inj hz).1
 refine hr.trans ?_
 have h5:(DataW.lit (H:=Unit) (.string y.data.toList))= .lit (.string s):=by rw [←h4];exact h2
 injection h5 with h5
 injection h5 with h5
 rw [←h5]
theorem Met.look {w:World} {b n:Nat} {f:Int→List UInt8} (h:Met w b n f) {v:Int} (hv:R64 v):
  (Instr.lookup 129 (.map (some b)) (.int .i64 v) false).run Tryz.prog w= .ok (.string ⟨(f v).toArray⟩) w:=by
 obtain ⟨D,h1,h2⟩:=h
 exact look_gen (Maps.int_keyed Tryz.underlying3) Tryz.underlying129 Tryz.underlying9 (zeroS w) h1 (keyI hv) (h2 v hv)
theorem put_at {D:DataW Unit} (hD:Maps.IsMap D) {v x:Int} {d:DataW Unit} {f:Int→List UInt8} {s:List UInt8} (hd:d= .lit (.string s)) (h:R64 x→D.atKey (.int .i64 x) (.lit (.string []))= .lit (.string (f x))) (hx:R64 x):
  (D.put (.int .i64 v) d).atKey (.int .i64 x) (.lit (.string []))= .lit (.string (if x=v then s else f x)):=by
 by_cases e:x=v
 ·subst e
  rw [if_pos rfl,Maps.atKey_put_same hD (by simp [WideAt.IsKeyLit]),hd]
 ·rw [if_neg e,Maps.atKey_put_other (by simpa using e),h hx]
theorem wpList_met (w:World) {ops:Array Oper} {rest:List Oper} {o:Oper} {a:Act} {Q:Exit→Act→World→Prop} (hg:o.guard=none) (m x y:Operand) (hop:o.op=Op.mapUpdate 129 m x y)
  (b n:Nat) (f:Int→List UInt8) (hm:a.eval m= .map (some b)) (h:Met w b n f) (hn:n<maxLen) (v:Int) (hx:a.eval x= .int .i64 v) (hv:R64 v) (s:ByteArray) (hy:a.eval y= .string s) (hs:s.size≤maxLen)
  (hK:∀w',Met w' b (n+1) (fun x=>if x=v then s.data.toList else f x)→Fr [b] w w'→wpList Tryz.prog ops Q rest (a.put o.dst undef) w'):
  wpList Tryz.prog ops Q (o::rest) a w:=by
 obtain ⟨D,h1,h2⟩:=h
 refine wpList_mapUpdate_own w hg m x y 129 hop 3 9 (Maps.int_keyed Tryz.underlying3) Tryz.underlying129 _ b n D hm h1 hn _ _ (.int .i64 v) hx hy (keyI hv) (.lit (.string s.data.toList)) []
  (plainElem_string Tryz.underlying9 hs) ?_
 intro w' g1 g2
 exact hK w' ⟨_,g1,fun x hx=>put_at h1.isMap rfl (fun hr=>h2 x hr) hx⟩ ((Fr.refl _ w).grown g2 (fun k hk=>by cases hk;exact .inl (by simp)))
def Fault:Ending:= .panicked [{ v:= .iface 32 (.int .i64 9),recovered:=false }]
theorem need_yes (w:World):Calls Tryz.prog 46 #[.bool true] w fun e w'=>e= .returned (.tuple #[])∧w=w':=by
 go_enter Tryz.func46,Tryz.ntmps46
 go_wp2_with fail
 go_end0
 exact ⟨rfl,rfl⟩
theorem need_no (w:World):Calls Tryz.prog 46 #[.bool false] w fun e w'=>e=Fault∧w=w':=by
 go_enter Tryz.func46,Tryz.ntmps46
 go_wp2_with fail
 exact ⟨rfl,rfl,rfl⟩
structure Ms (w:World) (g b n:Nat) (f:Int→List UInt8):Prop where
 at_:At w g 131 #[.map (some b)]
 met:Met w b n f
theorem Ms.keep {w w':World} {g b n:Nat} {f:Int→List UInt8} (h:Ms w g b n f) (hf:Fr [] w w'):Ms w' g b n f:=⟨h.at_.keep hf,h.met.keep hf⟩
def defB (f:Int→List UInt8) (l most:Int):Bool:=decide (2≤l)&&decide (l%2=0)&&decide (l/2≤most)&&(f (l/2)).isEmpty
theorem define_ok (w:World) (g b n:Nat) (f:Int→List UInt8) (l most:Int) (k:ByteArray) (h:Ms w g b n f) (hgb:g≠b) (hr:R64 l) (hd:defB f l most=true) (hk:k.size≤1) (hn:n<140737488355328):
  Calls Tryz.prog 89 #[.pointer (some ⟨g,0,none⟩), .int .i64 l, .int .i64 most, .string k] w fun e w'=>e= .returned (.tuple #[])∧Ms w' g b (n+1) (fun x=>if x=l/2 then k.data.toList else f x)∧Fr [b] w w':=by
 simp only [defB,Bool.and_eq_true,decide_eq_true_eq] at hd
 obtain ⟨⟨⟨h1,h2⟩,h3⟩,h4⟩:=hd
 unfold R64 at hr
 obtain ⟨hr1,hr2⟩:=hr
 have HM:=Lib.hid h
 have hc:=h.at_.cell 0
 simp at hc
 have hlk:=h.met.look (v:=l/2) (by unfold R64;omega)
 have e4:f (l/2)=[]:=List.isEmpty_iff.1 h4
 rw [e4] at hlk
 have HG:=Lib.hid hgb
 have H2:(l%2==1)=false:=by rw [beq_eq_false_iff_ne];omega
 have d1:decide (2≤l)=true:=decide_eq_true h1
 have d3:decide (l/2≤most)=true:=decide_eq_true h3
 clear h h4 e4 h2 hgb
 have l0:0≤l:=by omega
 go_enter Tryz.func89,Tryz.ntmps89
 go_wp2_with fail
 refine (lvar_nn _ l l0 hr2).mono ?_
 rintro e w' ⟨rfl,rfl⟩
 go_wp2_with fail
 refine (lneg_nn _ l l0 hr2).mono ?_
 rintro e w' ⟨rfl,rfl⟩
 go_wp2_with fail
 refine (need_yes _).mono ?_
 rintro e w' ⟨rfl,rfl⟩
 go_wp2_with (at_mapUpdate;refine wpList_met _ rfl _ _ _ rfl b n f rfl HM.out.met (by unfold maxLen;omega) (l/2) rfl (by unfold R64;omega) k rfl (by unfold maxLen;omega) ?_;intro w2 g1 g2;have G1:=Lib.hid g1;have G2:=Lib.hid g2;clear g1 g2)
 go_end0
 exact ⟨rfl,⟨G2.out.at_ HM.out.at_ (by simp;exact HG.out),G1.out⟩,G2.out⟩
theorem define_bad (w:World) (g b n:Nat) (f:Int→List UInt8) (l most:Int) (k:ByteArray) (h:Ms w g b n f) (hr:R64 l) (hd:defB f l most=false):
  Calls Tryz.prog 89 #[.pointer (some ⟨g,0,none⟩), .int .i64 l, .int .i64 most, .string k] w fun e w'=>e=Fault∧w=w':=by
 unfold R64 at hr
 obtain ⟨hr1,hr2⟩:=hr
 have HM:=Lib.hid h
 have hc:=h.at_.cell 0
 simp at hc
 have HF:=Lib.hid (rfl :Fault=Fault)
 by_cases l0:0≤l
 ·have hlk:=h.met.look (v:=l/2) (by unfold R64;omega)
  by_cases h1:2≤l
  ·have d1:decide (2≤l)=true:=decide_eq_true h1
   by_cases h2:l%2=0
   ·have H2:(l%2==1)=false:=by rw [beq_eq_false_iff_ne];omega
    by_cases h3:l/2≤most
    ·have d3:decide (l/2≤most)=true:=decide_eq_true h3
     have h4:(f (l/2)).isEmpty=false:=by
      simp only [defB,d1,d3,h2,decide_true,Bool.true_and] at hd
      exact hd
     obtain ⟨c,r,hcr⟩:∃c r,f (l/2)=c::r:=by
      cases hf:f (l/2) with
      |nil=>rw [hf] at h4;cases h4
      |cons c r=>exact ⟨c,r,rfl⟩
     rw [hcr] at hlk
     clear h h4 hcr h2 hd
     go_enter Tryz.func89,Tryz.ntmps89
     go_wp2_with fail
     refine (lvar_nn _ l l0 hr2).mono ?_
     rintro e w' ⟨rfl,rfl⟩
     go_wp2_with fail
     refine (lneg_nn _ l l0 hr2).mono ?_
     rintro e w' ⟨rfl,rfl⟩
     go_wp2_with fail
     refine (need_no _).mono ?_
     rintro e w' ⟨rfl,rfl⟩
     unfold Fault
     go_wp2_with fail
     exact ⟨rfl,rfl,rfl⟩
    ·have d3:decide (l/2≤most)=false:=decide_eq_false h3
     clear h h2 hd hlk
     go_enter Tryz.func89,Tryz.ntmps89
     go_wp2_with fail
     refine (lvar_nn _ l l0 hr2).mono ?_
     rintro e w' ⟨rfl,rfl⟩
     go_wp2_with fail
     refine (lneg_nn _ l l0 hr2).mono ?_
     rintro e w' ⟨rfl,rfl⟩
     go_wp2_with fail
     refine (need_no _).mono ?_
     rintro e w' ⟨rfl,rfl⟩
     unfold Fault
     go_wp2_with fail
     exact ⟨rfl,rfl,rfl⟩
   ·have H2:(l%2==1)=true:=by rw [beq_iff_eq];omega
    clear h h2 hd hlk
    go_enter Tryz.func89,Tryz.ntmps89
    go_wp2_with fail
    refine (lvar_nn _ l l0 hr2).mono ?_
    rintro e w' ⟨rfl,rfl⟩
    go_wp2_with fail
    refine (lneg_nn _ l l0 hr2).mono ?_
    rintro e w' ⟨rfl,rfl⟩
    go_wp2_with fail
    refine (need_no _).mono ?_
    rintro e w' ⟨rfl,rfl⟩
    unfold Fault
    go_wp2_with fail
    exact ⟨rfl,rfl,rfl⟩
  ·have d1:decide (2≤l)=false:=decide_eq_false h1
   clear h hd hlk
   go_enter Tryz.func89,Tryz.ntmps89
   go_wp2_with fail
   refine (lvar_nn _ l l0 hr2).mono ?_
   rintro e w' ⟨rfl,rfl⟩
   go_wp2_with fail
   refine (need_no _).mono ?_
   rintro e w' ⟨rfl,rfl⟩
   unfold Fault
   go_wp2_with fail
   exact ⟨rfl,rfl,rfl⟩
 ·have d1:decide (2≤l)=false:=decide_eq_false (by omega)
  clear h hd
  go_enter Tryz.func89,Tryz.ntmps89
  go_wp2_with fail
  refine (lvar_neg _ l (by omega)).mono ?_
  rintro e w' ⟨rfl,rfl⟩
  go_wp2_with fail
  refine (need_no _).mono ?_
  rintro e w' ⟨rfl,rfl⟩
  unfold Fault
  go_wp2_with fail
  exact ⟨rfl,rfl,rfl⟩
def knB (f:Int→List UInt8) (l:Int):Bool:=decide (0≤l)&&(decide (l<2) || !(f (l/2)).isEmpty)
theorem known_calls (w:World) (g b n:Nat) (f:Int→List UInt8) (l:Int) (h:Ms w g b n f) (hr:R64 l):
  Calls Tryz.prog 48 #[.pointer (some ⟨g,0,none⟩), .int .i64 l] w fun e w'=>e= .returned (.bool (knB f l))∧Fr [] w w':=by
 unfold R64 at hr
 obtain ⟨hr1,hr2⟩:=hr
 have HM:=Lib.hid h
 have hc:=h.at_.cell 0
 simp at hc
 have hK:Hid (∀s,knB f l=s→Ending.returned (.bool s)= .returned (.bool (knB f l))):=fun s h=>by rw [h]
 have e0:=Ext.cell hc
 by_cases l0:0≤l
 ·have d0:decide (0≤l)=true:=decide_eq_true l0
  have KV:=Lib.hid (fun W=>lvar_nn W l l0 hr2)
  have hlk:∀u:Ext w,(Instr.lookup 129 (.map (some b)) (.int .i64 (l/2)) false).run Tryz.prog u.v= .ok (.string ⟨(f (l/2)).toArray⟩) u.v:=fun u=>(h.met.keep u.fr).look (v:=l/2) (by unfold R64;omega)
  by_cases h1:l<2
  ·have d1:decide (l<2)=true:=decide_eq_true h1
   have HKN:Hid (knB f l=true):=(by simp [knB,d0,d1]:knB f l=true)
   clear h hlk
   go_enter Tryz.func48,Tryz.ntmps48
   go_wp2_with fail
   refine wp_region_ext (by kernel_rfl) (by kernel_rfl) ?_
   repeat (go_big_quiet_step (exact call_same (KV.out _)))
   refine wpQuiet_nil ?_
   rintro w2 ⟨u2,hu2⟩
   have HF_w2:Hid (Fr [] w w2):=hu2▸u2.fr
   clear hu2 u2
   go_wp2_with fail
   go_ret
   exact ⟨hK.out _ HKN.out,HF_w2.out⟩
  ·have d1:decide (l<2)=false:=decide_eq_false h1
   cases hf:f (l/2) with
   |nil=>
    have HKN:Hid (knB f l=false):=(by simp [knB,d1,hf]:knB f l=false)
    rw [hf] at hlk
    clear h hf
    go_enter Tryz.func48,Tryz.ntmps48
    go_wp2_with fail
    refine wp_region_ext (by kernel_rfl) (by kernel_rfl) ?_
    repeat (go_big_quiet_step (exact call_same (KV.out _)))
    refine wpQuiet_nil ?_
    rintro w2 ⟨u2,hu2⟩
    have HF_w2:Hid (Fr [] w w2):=hu2▸u2.fr
    clear hu2 u2
    go_wp2_with fail
    go_ret
    exact ⟨hK.out _ HKN.out,HF_w2.out⟩
   |cons c r=>
    have HKN:Hid (knB f l=true):=(by simp [knB,d0,hf]:knB f l=true)
    rw [hf] at hlk
    clear h hf
    go_enter Tryz.func48,Tryz.ntmps48
    go_wp2_with fail
    refine wp_region_ext (by kernel_rfl) (by kernel_rfl) ?_
    repeat (go_big_quiet_step (exact call_same (KV.out _)))
    refine wpQuiet_nil ?_
    rintro w2 ⟨u2,hu2⟩
    have HF_w2:Hid (Fr [] w w2):=hu2▸u2.fr
    clear hu2 u2
    go_wp2_with fail
    go_ret
    exact ⟨hK.out _ HKN.out,HF_w2.out⟩
 ·have d0:decide (0≤l)=false:=decide_eq_false l0
  have HKN:Hid (knB f l=false):=(by simp [knB,d0]:knB f l=false)
  have KV:=Lib.hid (fun W=>lvar_neg W l (by omega))
  clear h
  go_enter Tryz.func48,Tryz.ntmps48
  go_wp2_with fail
  refine wp_region_ext (by kernel_rfl) (by kernel_rfl) ?_
  repeat (go_big_quiet_step (exact call_same (KV.out _)))
  refine wpQuiet_nil ?_
  rintro w2 ⟨u2,hu2⟩
  have HF_w2:Hid (Fr [] w w2):=hu2▸u2.fr
  clear hu2 u2
  go_wp2_with fail
  go_ret
  exact ⟨hK.out _ HKN.out,HF_w2.out⟩
theorem enters58:∀args w,(callFunc 91 args).run Tryz.prog w= .ok (.enter 91 args) w:=enters_of Tryz.func91 (by kernel_rfl) rfl
theorem enters45:∀args w,(callFunc 96 args).run Tryz.prog w= .ok (.enter 96 args) w:=enters_of Tryz.func96 (by kernel_rfl) rfl
theorem all1_calls (w:World) (p g b n:Nat) (f:Int→List UInt8) (x:Int) (h:Ms w g b n f) (hp:w.cell? ⟨p,0,none⟩=some (.pointer (some ⟨g,0,none⟩))) (hr:R64 x):
  Calls Tryz.prog 91 #[.int .i64 x, .pointer (some ⟨p,0,none⟩)] w fun e w'=>e= .returned (.bool (!knB f x))∧Fr [] w w':=by
 have KC:=Lib.hid (known_calls w g b n f x h hr)
 clear h hr
 go_enter Tryz.func91,Tryz.ntmps91
 go_wp2_with fail
 refine KC.out.mono ?_
 obtain ⟨q,HQ⟩:∃q,Hid (knB f x=q):=⟨_,rfl⟩
 rw [HQ.out]
 rintro e w' ⟨rfl,hf⟩
 have HF:=Lib.hid hf
 clear hf
 go_wp2_with fail
 go_ret
 exact ⟨by rw [HQ.out];rfl,HF.out⟩
theorem all_calls (w:World) (g b n:Nat) (f:Int→List UInt8) (A:Option Addr) (c:Nat) (xs:List Int) (h:Ms w g b n f) (hx:Rd w A xs) (hr:Ra xs) (hl:xs.length≤17592186044416):
  Calls Tryz.prog 49 #[.pointer (some ⟨g,0,none⟩), .slice A xs.length c] w fun e w'=>e= .returned (.bool (xs.all (knB f)))∧Fr [] w w':=by
 have hmf:∀(fn:Fn) (first cap:Array Value) (w:World),(Instr.makeFunc fn first cap).run Tryz.prog w= .ok (.func fn first cap) w:=fun _ _ _ _=>rfl
 have hf1:=box_fr w (.cells #[.pointer (some ⟨g,0,none⟩)] 89)
 have KC:=Lib.hid (contains_ints (w.alloc (.cells #[.pointer (some ⟨g,0,none⟩)] 89)) A c xs 91 #[.pointer (some ⟨w.heap.size,0,none⟩)] (fun x=> !knB f x) enters58 (hx.keep hf1) hr hl
  (fun W hW x _ hx=>all1_calls W w.heap.size g b n f x (h.keep (hf1.then_ hW)) (hW.cellS (by simp)) hx))
 have HF1:=Lib.hid hf1
 clear h hx hr hf1
 go_enter Tryz.func49,Tryz.ntmps49
 go_wp2_with fail
 refine KC.out.mono ?_
 obtain ⟨q,HQ⟩:∃q,Hid ((xs.any fun x=> !knB f x)=q):=⟨_,rfl⟩
 rw [HQ.out]
 rintro e w' ⟨rfl,hf⟩
 have HF:=Lib.hid (HF1.out.then_ hf)
 clear hf
 go_wp2_with fail
 go_ret
 exact ⟨by rw [List.all_eq_not_any_not,HQ.out];rfl,HF.out⟩
theorem text1_calls (w:World) (c:UInt8):
  Calls Tryz.prog 128 #[.int .u8 c.toNat] w fun e w'=>e= .returned (.bool (badCh c))∧w=w':=by
 have hK:Hid (∀s,badCh c=s→Ending.returned (.bool s)= .returned (.bool (badCh c))):=fun s h=>by rw [h]
 by_cases h1:(c.toNat:Int)<33
 ·have d1:decide ((c.toNat:Int)<33)=true:=decide_eq_true h1
  have HB:Hid (badCh c=true):=(by simp [badCh,d1]:badCh c=true)
  go_enter Tryz.func128,Tryz.ntmps128
  go_wp2_with fail
  go_ret
  exact ⟨hK.out _ HB.out,rfl⟩
 ·have d1:decide ((c.toNat:Int)<33)=false:=decide_eq_false h1
  by_cases h2:126<(c.toNat:Int)
  ·have d2:decide (126<(c.toNat:Int))=true:=decide_eq_true h2
   have HB:Hid (badCh c=true):=(by simp [badCh,d2]:badCh c=true)
   go_enter Tryz.func128,Tryz.ntmps128
   go_wp2_with fail
   go_ret
   exact ⟨hK.out _ HB.out,rfl⟩
  ·have d2:decide (126<(c.toNat:Int))=false:=decide_eq_false h2
   have HB:Hid (badCh c=false):=(by simp [badCh,d1,d2]:badCh c=false)
   go_enter Tryz.func128,Tryz.ntmps128
   go_wp2_with fail
   go_ret
   exact ⟨hK.out _ HB.out,rfl⟩
theorem enters72:∀args w,(callFunc 128 args).run Tryz.prog w= .ok (.enter 128 args) w:=enters_of Tryz.func128 (by kernel_rfl) rfl
theorem index_bytes (w:World) (g c:Nat) (l:List UInt8) (h:∀j:Nat,j<l.length→w.cell? ⟨g,j,none⟩=some (.int .u8 (l[j]!).toNat)) (hl:l.length≤17592186044416):
  Calls Tryz.prog 154 #[.slice (some ⟨g,0,none⟩) l.length c, .func (.func 128) #[] #[]] w (IxP (l.any badCh) w):=by
 have HH:=Lib.hid h
 have YES:Hid (∀(n:Nat) W,n≤17592186044416→l.any badCh=true→Fr [] w W→IxP (l.any badCh) w (.returned (.int .i64 (n:Int))) W):=fun n W h1 h2 h3=>⟨n,rfl,by omega,by omega,by rw [h2];exact decide_eq_true (by omega),h3⟩
 have NO:Hid (∀W,l.any badCh=false→Fr [] w W→IxP (l.any badCh) w (.returned (.int .i64 (-1))) W):=fun W h2 h3=>⟨-1,rfl,by omega,by omega,by rw [h2];rfl,h3⟩
 have eg:=enters72
 clear h
 go_enter Tryz.func154,Tryz.ntmps154
 go_wp2_with fail
 go_loop [8] (fun i=>∃k:Nat,k≤l.length∧i= .int .i64 k∧NoneTo l badCh k) (fun i=>l.length-(intOf i).toNat)
 case atStart=>exact ⟨0,Nat.zero_le _,rfl,NoneTo.zero _ _⟩
 case round=>
  obtain ⟨k,hk,rfl,hn⟩:=hrel
  have HN:=Lib.hid hn
  clear hn
  by_cases hlt:k<l.length
  ·have cx:=HH.out k hlt
   obtain ⟨x,he⟩:∃x,Hid (l[k]! =x):=⟨_,rfl⟩
   rw [he.out] at cx
   have HC:=Lib.hid (text1_calls w x)
   go_wp2_with fail
   refine HC.out.mono ?_
   obtain ⟨q,HQ⟩:∃q,Hid (badCh x=q):=⟨_,rfl⟩
   rw [HQ.out]
   rintro e w2 ⟨rfl,rfl⟩
   cases q with
   |true=>
    go_wp2_with fail
    go_ret
    exact YES.out k _ (by omega) (any_yes _ _ k hlt (by rw [he.out];exact HQ.out)) (Fr.refl _ _)
   |false=>
    go_wp2_with fail
    go_round
    case rel=>exact ⟨k+1,by omega,by go_num,HN.out.step (by rw [he.out];exact HQ.out)⟩
    case measure=>simp [intOf];omega
  ·have HT:=Lib.hid (HN.out.all hlt)
   go_wp2_with fail
   go_ret
   exact NO.out _ HT.out (Fr.refl _ _)
theorem contains_bytes (w:World) (g c:Nat) (l:List UInt8) (h:∀j:Nat,j<l.length→w.cell? ⟨g,j,none⟩=some (.int .u8 (l[j]!).toNat)) (hl:l.length≤17592186044416):
  Calls Tryz.prog 127 #[.slice (some ⟨g,0,none⟩) l.length c, .func (.func 128) #[] #[]] w fun e w'=>e= .returned (.bool (l.any badCh))∧Fr [] w w':=by
 have HC:=Lib.hid (index_bytes w g c l h hl)
 clear h
 go_enter Tryz.func127,Tryz.ntmps127
 go_wp2_with fail
 refine HC.out.mono ?_
 rintro e w2 ⟨n,rfl,h1,h2,h3,hf⟩
 have H3:=Lib.hid h3
 have HF:=Lib.hid hf
 clear h3 hf
 go_wp2_with fail
 go_ret
 exact ⟨by rw [←H3.out];rfl,HF.out⟩
theorem bytes_fr (w:World) (e:TypeId) (s:ByteArray):Fr [] w (Lib.bytesWorld w e s):=
 ⟨rfl,rfl,rfl,by rw [Lib.bytesWorld_size];omega,fun k hk _=>Lib.bytesWorld_at_old w e s k hk⟩
def textB (s:ByteArray):Bool:= !s.toList.isEmpty&&decide ((s.size:Int)≤32)&& !txtBad s
theorem text_calls (w:World) (s:ByteArray) (hs:s.size≤maxLen):
  Calls Tryz.prog 94 #[.string s] w fun e w'=>e= .returned (.bool (textB s))∧Fr [] w w':=by
 unfold maxLen at hs
 have hK:Hid (∀x,textB s=x→Ending.returned (.bool x)= .returned (.bool (textB s))):=fun s h=>by rw [h]
 by_cases h1:s.toList.isEmpty=true
 ·have HB:Hid (textB s=false):=(by simp [textB,h1]:textB s=false)
  go_enter Tryz.func94,Tryz.ntmps94
  go_wp2_with fail
  go_ret
  exact ⟨hK.out _ HB.out,Fr.refl _ _⟩
 ·have h1b:=Bool.eq_false_iff.2 h1
  by_cases h2:(s.size:Int)≤32
  ·have d2:decide ((s.size:Int)≤32)=true:=decide_eq_true h2
   have HC:=Lib.hid (contains_bytes (Lib.bytesWorld w 5 s) w.heap.size (grownCap w s.size 0 5) s.data.toList (fun j hj=>by
    rw [Lib.bytesWorld_cell w 5 s j hj,List.getElem!_eq_getElem?_getD,List.getD_eq_getElem?_getD,List.getElem?_eq_getElem hj];rfl) (by simp;omega))
   have HB:Hid (textB s= !(s.data.toList.any badCh)):=(by simp [textB,h1b,d2,txtBad]:textB s= !(s.data.toList.any badCh))
   have hcv:=Lib.run_convert_string_bytes (P:=Tryz.prog) w 9 142 5 s Tryz.underlying9 Tryz.underlying142 Tryz.underlying5
   have HF:=Lib.hid (bytes_fr w 5 s)
   rw [show s.data.toList.length=s.size from rfl] at HC
   go_enter Tryz.func94,Tryz.ntmps94
   go_wp2_with fail
   refine HC.out.mono ?_
   obtain ⟨q,HQ⟩:∃q,Hid (s.data.toList.any badCh=q):=⟨_,rfl⟩
   rw [HQ.out]
   rintro e w2 ⟨rfl,hf⟩
   have HF2:=Lib.hid hf
   clear hf
   go_wp2_with fail
   go_ret
   exact ⟨hK.out _ (by rw [HB.out,HQ.out]),HF.out.then_ HF2.out⟩
  ·have d2:decide ((s.size:Int)≤32)=false:=decide_eq_false h2
   have HB:Hid (textB s=false):=(by simp [textB,d2]:textB s=false)
   go_enter Tryz.func94,Tryz.ntmps94
   go_wp2_with fail
   go_ret
   exact ⟨hK.out _ HB.out,Fr.refl _ _⟩
def posI (c:UInt8):Int:=Lib.indexByte [105,108,111,98,99] c
theorem toList1 (c:UInt8):(ByteArray.mk #[c]).toList=[c]:=by
 rw [ByteArray.toList_eq]
theorem ixbyte (w:World) (c:UInt8):
  Calls Tryz.prog 189 #[.string ⟨#[105,108,111,98,99]⟩, .int .u8 c.toNat] w fun e w'=>e= .returned (.int .i64 (posI c))∧w=w':=by
 go_enter Tryz.func189,Tryz.ntmps189
 go_wp2_with fail
 rw [run_callFunc_extern Tryz.func210 (by kernel_rfl) (by kernel_rfl) (by kernel_rfl) (e:=Extern.BytealgIndexByte.indexByte) (by kernel_rfl),Lib.run_indexByteString]
 simp only [Result.andThen]
 rw [Oper.upon_value]
 go_wp2
 go_ret
 exact ⟨by simp [posI],rfl⟩
theorem slindex (w:World) (c:UInt8):
  Calls Tryz.prog 153 #[.string ⟨#[105,108,111,98,99]⟩, .string ⟨#[c]⟩] w fun e w'=>e= .returned (.int .i64 (posI c))∧w=w':=by
 go_enter Tryz.func153,Tryz.ntmps153
 go_wp2_with fail
 refine (ixbyte _ c).mono ?_
 rintro e w' ⟨rfl,rfl⟩
 go_wp2_with fail
 go_ret
 exact ⟨rfl,rfl⟩
theorem strindex (w:World) (c:UInt8):
  Calls Tryz.prog 126 #[.string ⟨#[105,108,111,98,99]⟩, .string ⟨#[c]⟩] w fun e w'=>e= .returned (.int .i64 (posI c))∧w=w':=by
 go_enter Tryz.func126,Tryz.ntmps126
 go_wp2_with fail
 refine (slindex _ c).mono ?_
 rintro e w' ⟨rfl,rfl⟩
 go_wp2_with fail
 go_ret
 exact ⟨rfl,rfl⟩
theorem strcontains (w:World) (c:UInt8):
  Calls Tryz.prog 92 #[.string ⟨#[105,108,111,98,99]⟩, .string ⟨#[c]⟩] w fun e w'=>e= .returned (.bool (decide (0≤posI c)))∧w=w':=by
 go_enter Tryz.func92,Tryz.ntmps92
 go_wp2_with fail
 refine (strindex _ c).mono ?_
 rintro e w' ⟨rfl,rfl⟩
 go_wp2_with fail
 go_ret
 exact ⟨rfl,rfl⟩
def cntP (C:Pc) (k:ByteArray):Int:=
 if (k.toList==[105])=true then C.ins.length else if (k.toList==[108])=true then C.lat.length else if (k.toList==[111])=true then C.outs.length else if (k.toList==[98])=true then C.bads.length else C.invs.length
theorem pcount_calls (w:World) (H:Hd) (C:Pc) (s:ByteArray):
  Calls Tryz.prog 93 #[cval H C, .string s] w fun e w'=>e= .returned (.int .i64 (cntP C s))∧Fr [] w w':=by
 have hK:Hid (∀x,cntP C s=x→Ending.returned (.int .i64 x)= .returned (.int .i64 (cntP C s))):=fun s h=>by rw [h]
 obtain ⟨mx,ins,lat,outs,bads,invs,ands,nms⟩:=C
 obtain ⟨iA,iC,lA,lC,oA,oC,bA,bC,vA,vC,gA,gC,nA,nC⟩:=H
 simp only [cval,cvs] at *
 rcases seq_or s.toList [105] with g0 |g0
 ·have HC:=Lib.hid (show cntP ⟨mx,ins,lat,outs,bads,invs,ands,nms⟩ s=_ from by simp only [cntP,g0,if_true];rfl)
  go_enter Tryz.func93,Tryz.ntmps93
  go_wp2_with fail
  go_ret
  exact ⟨hK.out _ HC.out,box_fr _ _⟩
 rcases seq_or s.toList [108] with g1 |g1
 ·have HC:=Lib.hid (show cntP ⟨mx,ins,lat,outs,bads,invs,ands,nms⟩ s=_ from by simp only [cntP,g0,g1,if_true,if_false,Bool.false_eq_true];rfl)
  go_enter Tryz.func93,Tryz.ntmps93
  go_wp2_with fail
  go_ret
  exact ⟨hK.out _ HC.out,box_fr _ _⟩
 rcases seq_or s.toList [111] with g2 |g2
 ·have HC:=Lib.hid (show cntP ⟨mx,ins,lat,outs,bads,invs,ands,nms⟩ s=_ from by simp only [cntP,g0,g1,g2,if_true,if_false,Bool.false_eq_true];rfl)
  go_enter Tryz.func93,Tryz.ntmps93
  go_wp2_with fail
  go_ret
  exact ⟨hK.out _ HC.out,box_fr _ _⟩
 rcases seq_or s.toList [98] with g3 |g3
 ·have HC:=Lib.hid (show cntP ⟨mx,ins,lat,outs,bads,invs,ands,nms⟩ s=_ from by simp only [cntP,g0,g1,g2,g3,if_true,if_false,Bool.false_eq_true];rfl)
  go_enter Tryz.func93,Tryz.ntmps93
  go_wp2_with fail
  go_ret
  exact ⟨hK.out _ HC.out,box_fr _ _⟩
 have HC:=Lib.hid (show cntP ⟨mx,ins,lat,outs,bads,invs,ands,nms⟩ s=_ from by simp only [cntP,g0,g1,g2,g3,if_false,Bool.false_eq_true];rfl)
 go_enter Tryz.func93,Tryz.ntmps93
 go_wp2_with fail
 go_ret
 exact ⟨hK.out _ HC.out,box_fr _ _⟩
theorem posI_bd (c:UInt8): -1≤posI c∧posI c≤4:=by
 simp only [posI,Lib.indexByte]
 repeat' split
 all_goals simp_all
def letter (k:ByteArray):UInt8:=k.data.toList.headD 0
def rankI (x:Nm):Int:=posI (letter x.k)*2048+x.i
theorem rank_calls (w:World) (c:UInt8) (i:Int) (t:ByteArray) (h0:0≤i) (h1:i≤17592186044416):
  Calls Tryz.prog 95 #[.agg #[.string ⟨#[c]⟩, .int .i64 i, .string t]] w fun e w'=>e= .returned (.int .i64 (posI c*2048+i))∧Fr [] w w':=by
 obtain ⟨p1,p2⟩:=posI_bd c
 have KI:=Lib.hid (fun W=>strindex W c)
 generalize posI c=p at *
 obtain ⟨W1,hW1⟩:∃W,w.alloc (.cells #[.string ⟨#[c]⟩, .int .i64 i, .string t] 134)=W:=⟨_,rfl⟩
 have hO:At W1 w.heap.size 134 #[.string ⟨#[c]⟩, .int .i64 i, .string t]:=hW1▸At.new _ _ _
 have HF1:Hid (Fr [] w W1):=hW1▸box_fr _ _
 have c0:=hO.cell 0
 have c1:=hO.cell 1
 simp at c0 c1
 have e0:=Ext.cell c0
 have e1:=Ext.cell c1
 have HW:=Lib.hid hW1
 have m0:IntKind.i64.wrap (p*2048)=p*2048:=IntWalk.i64_in _ (by omega)
 have m1:IntKind.i64.wrap (p*2048+i)=p*2048+i:=IntWalk.i64_in _ (by omega)
 clear hW1 hO c0 c1
 go_enter Tryz.func95,Tryz.ntmps95
 go_upto_region 1 with fail
 rw [HW.out]
 refine wp_region_ext (by kernel_rfl) (by kernel_rfl) ?_
 repeat (go_big_quiet_step (exact call_same (KI.out _)))
 refine wpQuiet_nil ?_
 rintro w2 ⟨u2,hu2⟩
 have HF_w2:Hid (Fr [] W1 w2):=hu2▸u2.fr
 clear hu2 u2
 go_wp2_with fail
 go_ret
 exact ⟨rfl,HF1.out.then_ HF_w2.out⟩
end Go.Proofs.YtjmmpfjcpdepjaaGreatDoor
