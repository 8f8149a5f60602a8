import Derived.Test.YtddbjihiflcbbaaGreatM13
set_option linter.unusedVariables false
set_option linter.unusedSimpArgs false
section
set_option maxRecDepth 100000
namespace Go.Am
def d0_ (ps es:KV):KV:=es.foldl (fun ps p=>fT_ ps p.1 p.2) ps
def fu_ (st:StD):KV:=d0_ [] (uU_ st)
structure TrK (H:Hp) (x:Pl) (n:Nat) (ps:KV):Prop where
 ex:∃ cs A,Tr H x n cs A∧0 < aU_ A∧dT_ A=ps
theorem TrK.mono {H H':Hp} {x:Pl} {n:Nat} {ps:KV} (h:TrK H x n ps) (p:H<+:H'):TrK H' x n ps:=by
 obtain⟨cs,A,h1,h2⟩:=h.ex;exact⟨cs,A,h1.mono p,h2⟩
theorem TrK.asc {H:Hp} {x:Pl} {n:Nat} {ps:KV} (h:TrK H x n ps):Asc ps:=by
 obtain⟨cs,A,_,_,h3⟩:=h.ex;rw[←h3]; exact hi_ A
theorem yB_:dT_ jR_=[]:=by decide+kernel
theorem B7_ {n:ByteArray} (h:bm_ n 4=true):1≤(rd_ n).size∧(rd_ n).size≤6:=by
 have:=et_ h;unfold rd_; rw[fw_,c5_]; simp; omega
theorem B0_ {x:SnapR} (h:eR_ x=true):(jj_ x).size≤10:=by
 obtain⟨_,_,b5,b6⟩:=ou_ h;unfold jj_; rw[fw_,fw_,c5_]; simp; omega
theorem BA_ {k:LKey} (h:bm_ k.2 3=true):1≤(oE_ k).size∧(oE_ k).size≤6:=by
 have:=et_ h;unfold oE_; rw[fw_,c5_]; simp; omega
theorem Cl_ {x:InoR} (h:d8_ x=true):(pP_ x).size≤10:=by
 unfold d8_ at h;simp only[Bool.and_eq_true] at h;have:=h.2;unfold pP_; rw[fw_,c5_]; simp at this ⊢; omega
section
variable {B H:Hp} {Q:Post} {sp n1 n2 n3:Nat} {a1 a2 a3:Pl} {st:StD}
theorem vf_ {x:Pl} {n:Nat} {ps:KV} {key v:ByteArray} (h:TrK H x n ps) (hn:n≤48) (hl:ps.length < 60) (k1:1≤key.size) (k2:key.size≤6) (k3:v.size≤10)
 (hQ:∀ H' x',H<+:H'→TrK H' x' 48 (fT_ ps key v)→(fT_ ps key v).length≤ps.length+1→Q (.tup [.a [.sl x' 48 5],.s (.int .i64 0)]) H'):bg_ [.agg [.sl x n 5],.g (.str key),.g (.str v)] H Q:=by
 have hasc:=h.asc;obtain⟨cs,A,h1,h2,h3⟩:=h.ex;have e2:dT_ A=dp_ A:=by unfold dT_; rw[decide_eq_true h2]
 have hz:qZ_ A key v=0:=by
  unfold qZ_ oD_;rw[decide_eq_true h2,decide_eq_true k1,decide_eq_true k2,decide_eq_true k3,←e2,h3,decide_eq_false (by omega)];simp
 refine o6_ h1 (by omega) (fun H' e _=>absurd hz e) (fun _ _ x' cs' A' H' p hT' ok=> ?_);obtain⟨o1,o2⟩:=zD_ ok h2;rw[h3] at o1;refine hQ H' x' p ⟨cs',A',hT',ok.pos,o1⟩ ?_;rw[A5_ hasc];split<;>omega
theorem j6_ (h:cA_ B H sp a1 n1 a2 n2 a3 n3 st) (ok:xD_ st) (hm:st.snaps.length+st.links.length+st.inos.length≤60)
 (hQ:∀ H' x',H<+:H'→TrK H' x' 48 (fu_ st)→Q (.agg [.sl x' 48 5]) H'):au_ [.g (.ptr (some (sp,0)))] H Q:=by
 refine⟨st.snaps.length+2*st.links.length+st.inos.length+10,?_⟩;rw[l0_];have etn:∀ k:Nat,tN (k:Int)=k:=fun _=>rfl;have hl1:=h.l1;have hl2:=h.l2;have hl3:=h.l3;refine iJ_ fun H1 p1 o1=> ?_;simp only[f4_,bA_,as_,b0_];have T0:TrK H1 (some (H.length,0)) 48 (d0_ [] []):=⟨qj_,jR_,o1.tr,by rw[Cm_]; omega,yB_⟩;have go18:∀ (f i F:Nat) (G:Hp) (x:Pl),f=st.inos.length - i→i≤st.inos.length→f+1≤F→H<+:G→TrK G x 48 (d0_ [] (st.snaps.map hZ_++(st.links.map kh_++(st.inos.take i).map q1_)))→(d0_ [] (st.snaps.map hZ_++(st.links.map kh_++(st.inos.take i).map q1_))).length≤st.snaps.length+st.links.length+i→
  au_.l18 F (some (sp,0)) none 0 x 48 ((i:Nat):Int) G Q:=by
  intro f;induction f with
  | zero=>
   intro i F G x hf hi hF hG hT hL;obtain⟨F,rfl⟩:∃ G,F=G+1:=⟨F - 1,by omega⟩;obtain⟨g1,g2,g3⟩:=(h.mono hG).rd;rw[au_.l18_eq];simp only[ah_];rw[ag_ g3,as_];refine aa_ (fun e=>by simp at e; omega) (fun _=> ?_);rw[List.take_of_length_le (by omega)] at hT;exact hQ G x hG hT
  | succ f ih=>
   intro i F G x hf hi hF hG hT hL;have hil:i < st.inos.length:=by omega
   obtain⟨F,rfl⟩:∃ G,F=G+1:=⟨F - 1,by omega⟩;have hR:=h.mono hG;obtain⟨g1,g2,g3⟩:=hR.rd;rw[au_.l18_eq];simp only[ah_];rw[ag_ g3,as_];refine aa_ (fun e=> ?_) (fun e=>by simp at e; omega);rw[ag_ g3,as_];refine ab_ rfl (ab_ (by simp; omega) ?_);obtain⟨l3,e3,r1,r2,r3⟩:=hR.inoG i hil;subst e3;simp only[ah_,etn,Nat.zero_add,Nat.add_zero];rw[ag_ r1,ak_];obtain⟨⟨c1,c2⟩,c3⟩:=ok.inos _ (List.getElem_mem hil);refine mc_ c1 c2 fun G1 pG1=> ?_;simp only[aR_,aG_,bP_,aB_,ak_,aS_];obtain⟨g1',g2',g3'⟩:=(hR.mono pG1).rd;rw[ag_ g3',as_];refine ab_ rfl (ab_ (by simp; omega) ?_)
   try simp only[ah_,etn,Nat.zero_add,Nat.add_zero]
   rw[ag_ (dF_ pG1 r2),ak_,ag_ (dF_ pG1 r3),aB_];refine mf_ c3 fun G2 pG2=> ?_;simp only[aR_,aG_,bP_,aB_,ak_,aS_];refine vf_ (hT.mono (pG1.trans pG2)) (by omega) (by omega) (by unfold tD_; rw[c5_]; simp) (by unfold tD_; rw[c5_]; simp) (Cl_ c3) fun G3 x' pG3 hT' hl'=> ?_;simp only[aR_,aG_,gB_,bA_,as_,b0_,bP_,ak_,aS_];rw[ar_ (by omega)];have he:d0_ [] (st.snaps.map hZ_++(st.links.map kh_++(st.inos.take (i+1)).map q1_))=fT_ (d0_ [] (st.snaps.map hZ_++(st.links.map kh_++(st.inos.take i).map q1_))) (tD_ st.inos[i].1) (pP_ st.inos[i].2):=by
    rw[List.take_add_one,List.getElem?_eq_getElem hil];unfold d0_;rw[Option.toList_some,List.map_append,←List.append_assoc,←List.append_assoc,List.foldl_append];rw[List.append_assoc]; rfl
   refine ih (i+1) F G3 x' (by omega) hil (by omega) (hG.trans (pG1.trans (pG2.trans pG3))) (by rw[he]; exact hT') (by rw[he]; omega)
 have go9:∀ (f i F:Nat) (G:Hp) (x:Pl),f=st.links.length - i→i≤st.links.length→2*f+(st.inos.length+2)≤F→H<+:G→TrK G x 48 (d0_ [] (st.snaps.map hZ_++(st.links.take i).map kh_))→(d0_ [] (st.snaps.map hZ_++(st.links.take i).map kh_)).length≤st.snaps.length+i→
  au_.l9 F (some (sp,0)) none 0 x 48 ((i:Nat):Int) G Q:=by
  intro f;induction f with
  | zero=>
   intro i F G x hf hi hF hG hT hL;obtain⟨F,rfl⟩:∃ G,F=G+1:=⟨F - 1,by omega⟩;obtain⟨g1,g2,g3⟩:=(h.mono hG).rd;rw[au_.l9_eq];simp only[ah_];rw[ag_ g2,as_];refine aa_ (fun e=>by simp at e; omega) (fun _=> ?_);rw[List.take_of_length_le (by omega)] at hT hL;refine go18 _ 0 F G x rfl (Nat.zero_le _) (by omega) hG ?_ ?_
   ·simpa using hT
   ·have:d0_ [] (st.snaps.map hZ_++(st.links.map kh_++(st.inos.take 0).map q1_))=d0_ [] (st.snaps.map hZ_++st.links.map kh_):=by simp
    rw[this]; omega
  | succ f ih=>
   intro i F G x hf hi hF hG hT hL;have hil:i < st.links.length:=by omega
   obtain⟨F,rfl⟩:∃ G,F=G+1+1:=⟨F - 2,by omega⟩;have hR:=h.mono hG;obtain⟨g1,g2,g3⟩:=hR.rd;rw[au_.l9_eq];simp only[ah_];rw[ag_ g2,as_];refine aa_ (fun e=> ?_) (fun e=>by simp at e; omega);rw[ag_ g2,as_];refine ab_ rfl (ab_ (by simp; omega) ?_);obtain⟨l2,e2,r1,r2,r3,r4,_⟩:=hR.linkG i hil;subst e2;simp only[ah_,etn,Nat.zero_add,Nat.add_zero];rw[ag_ r1,ak_,ag_ r2,aB_,ag_ r3,ak_,ag_ r4,al_];obtain⟨⟨c1,c2⟩,c3,c4,c5⟩:=ok.links _ (List.getElem_mem hil);refine mO_ c1 c2 c3 fun G1 pG1=> ?_;simp only[aR_,aG_,bP_,aB_,ak_,aS_];have he:d0_ [] (st.snaps.map hZ_++(st.links.take (i+1)).map kh_)=fT_ (d0_ [] (st.snaps.map hZ_++(st.links.take i).map kh_)) (oE_ st.links[i].1) (we_ st.links[i].2):=by
    rw[List.take_add_one,List.getElem?_eq_getElem hil];unfold d0_;rw[Option.toList_some,List.map_append,←List.append_assoc,List.foldl_append];rfl
   have tail:∀ (own:Int),own=((BR_ st.links[i].2.2).toNat:Int)→au_.l16 (F+1) (some (sp,0)) none 0 x 48 ((i:Nat):Int) st.links[i].1.1 st.links[i].1.2 st.links[i].2.1 st.links[i].2.2 (oE_ st.links[i].1) own G1 Q:=by
    intro own ho;rw[au_.l16_eq];simp only[fl_,e4_];rw[qv_ c4 c5,ho];rw[gM_ (cs:=u8s [bof st.links[i].2.1,BR_ st.links[i].2.2]) (by simp [cells?,u8s]),ol_];have pG2:G1<+:G1++[Obj.row true 5 [.int .u8 ((bof st.links[i].2.1).toNat:Int),.int .u8 ((BR_ st.links[i].2.2).toNat:Int)]]:=ce_ _ _;have hkb:=BA_ c3;refine vf_ (key:=oE_ st.links[i].1) (v:=we_ st.links[i].2) (hT.mono (pG1.trans pG2)) (by omega) (by omega) hkb.1 hkb.2 (by unfold we_; rw[c5_]; simp) fun G3 x' pG3 hT' hl'=> ?_;simp only[aR_,aG_,gB_,bA_,as_,b0_,bP_,ak_,aS_];rw[ar_ (by omega)];exact ih (i+1) F G3 x' (by omega) hil (by omega) (hG.trans (pG1.trans (pG2.trans pG3))) (by rw[he]; exact hT') (by rw[he]; omega)
   refine aa_ (fun e=>tail 1 (by rw[e]; rfl)) (fun e=>tail 0 (by rw[e]; rfl))
 have go3:∀ (f i F:Nat) (G:Hp) (x:Pl),f=st.snaps.length - i→i≤st.snaps.length→f+(2*st.links.length+(st.inos.length+2))+1≤F→H<+:G→TrK G x 48 (d0_ [] ((st.snaps.take i).map hZ_))→(d0_ [] ((st.snaps.take i).map hZ_)).length≤i→
  au_.l3 F (some (sp,0)) none 0 x 48 ((i:Nat):Int) G Q:=by
  intro f;induction f with
  | zero=>
   intro i F G x hf hi hF hG hT hL;obtain⟨F,rfl⟩:∃ G,F=G+1:=⟨F - 1,by omega⟩;obtain⟨g1,g2,g3⟩:=(h.mono hG).rd;rw[au_.l3_eq];simp only[ah_];rw[ag_ g1,as_];refine aa_ (fun e=>by simp at e; omega) (fun _=> ?_);rw[List.take_of_length_le (by omega)] at hT hL;refine go9 _ 0 F G x rfl (Nat.zero_le _) (by omega) hG ?_ ?_
   ·simpa using hT
   ·have:d0_ [] (st.snaps.map hZ_++(st.links.take 0).map kh_)=d0_ [] (st.snaps.map hZ_):=by simp
    rw[this]; omega
  | succ f ih=>
   intro i F G x hf hi hF hG hT hL;have hil:i < st.snaps.length:=by omega
   obtain⟨F,rfl⟩:∃ G,F=G+1:=⟨F - 1,by omega⟩;have hR:=h.mono hG;obtain⟨g1,g2,g3⟩:=hR.rd;rw[au_.l3_eq];simp only[ah_];rw[ag_ g1,as_];refine aa_ (fun e=> ?_) (fun e=>by simp at e; omega);rw[ag_ g1,as_];refine ab_ rfl (ab_ (by simp; omega) ?_);obtain⟨l1,e1,r1,r2,r3,r4,r5⟩:=hR.snapG i hil;subst e1;simp only[ah_,etn,Nat.zero_add,Nat.add_zero];rw[ag_ r1,aB_];obtain⟨c1,c2⟩:=ok.snaps _ (List.getElem_mem hil);refine nd_ c1 ?_;simp only[aR_,aG_,bP_,aB_,ak_,aS_];rw[ag_ g1,as_];refine ab_ rfl (ab_ (by simp; omega) ?_)
   try simp only[ah_,etn,Nat.zero_add,Nat.add_zero]
   rw[ag_ r2,ak_,ag_ r3,ak_,ag_ r4,aB_,ag_ r5,aB_];refine nf_ c2 fun G2 pG2=> ?_;simp only[aR_,aG_,bP_,aB_,ak_,aS_];have hkb:=B7_ c1;refine vf_ (hT.mono pG2) (by omega) (by omega) hkb.1 hkb.2 (B0_ c2) fun G3 x' pG3 hT' hl'=> ?_;simp only[aR_,aG_,gB_,bA_,as_,b0_,bP_,ak_,aS_];rw[ar_ (by omega)];have he:d0_ [] ((st.snaps.take (i+1)).map hZ_)=fT_ (d0_ [] ((st.snaps.take i).map hZ_)) (rd_ st.snaps[i].1) (jj_ st.snaps[i].2):=by
    rw[List.take_add_one,List.getElem?_eq_getElem hil];unfold d0_;rw[Option.toList_some,List.map_append,List.foldl_append];rfl
   refine ih (i+1) F G3 x' (by omega) hil (by omega) (hG.trans (pG2.trans pG3)) (by rw[he]; exact hT') (by rw[he]; omega)
 exact go3 _ 0 _ H1 _ rfl (Nat.zero_le _) (by omega) p1 T0 (Nat.le_refl _)
end
end Go.Am
end
section
set_option maxRecDepth 100000
namespace Go.Am
def iA_ (used:Int→Bool):Nat→Int→Int
 | 0,_=>0
 | f+1,k=>match used k with | true=>iA_ used f (k+1) | false=>k
def k7_ (st:StD) (id:Int):Bool:=(st.snaps.any fun x=>decide (x.2.id=id))||st.links.any fun l=>decide (l.1.1=id)
def da_ (st:StD):Int:=iA_ (k7_ st) 255 1
def cK_ (st:StD):Int:=iA_ (fun k=>st.inos.any fun x=>decide (x.1=k)) 255 1
def jP_ (st:StD) (id:Int) (path:ByteArray):Int:=match st.links.findIdx? (fun l=>decide (l.1.1=id)&&decide (l.1.2=path)) with | some i=>(i:Int) | none=> -1
def gA_ (st:StD):Int:=match st.links.findIdx? (fun l=> !(st.snaps.any fun x=>decide (x.2.id=l.1.1))) with | some i=>(i:Int) | none=> -1
theorem z7_ {α:Type} {p:α→Bool} {l:List α} {i:Nat} (hi:i < l.length) (h:p l[i]=true) (hl:∀ j (hj:j < l.length),j < i→p l[j]=false):l.findIdx? p=some i:=by
 rw[List.findIdx?_eq_some_iff_getElem];exact⟨hi,h,fun j hj=>by simp [hl j (by omega) hj]⟩
theorem wK_ {α:Type} {p:α→Bool} {l:List α} (h:∀ j (hj:j < l.length),p l[j]=false):l.findIdx? p=none:=by
 rw[List.findIdx?_eq_none_iff];intro x hx;obtain⟨j,hj,rfl⟩:=List.getElem_of_mem hx;exact h j hj
section
variable {B H:Hp} {Q:Post} {sp n1 n2 n3:Nat} {a1 a2 a3:Pl} {st:StD}
theorem fz_ (h:cA_ B H sp a1 n1 a2 n2 a3 n3 st) (hn:st.snaps.length≤1000) {s:ByteArray} (h1:∀ k (hk:k < st.snaps.length),st.snaps[k].1=s→(∀ j (hj:j < st.snaps.length),j < k→st.snaps[j].1≠s)→Q (.g (.int .i64 ((k:Nat):Int))) H)
 (h2:(∀ j (hj:j < st.snaps.length),st.snaps[j].1≠s)→Q (.g (.int .i64 (-1))) H):aP_ [.g (.ptr (some (sp,0))),.g (.str s)] H Q:=by
 obtain⟨g1,g2,g3⟩:=h.rd;refine⟨st.snaps.length+2,?_⟩;rw[lo_];have etn:∀ k:Nat,tN (k:Int)=k:=fun _=>rfl;have hl:=h.l1;have go:∀ (f i:Nat),f=st.snaps.length - i→i≤st.snaps.length→(∀ j (hj:j < st.snaps.length),j < i→st.snaps[j].1≠s)→aP_.l2 (f+1) (some (sp,0)) s ((i:Nat):Int) H Q:=by
  intro f;induction f with
  | zero=>
   intro i hf hi hp;rw[aP_.l2_eq];simp only[ah_];rw[ag_ g1,as_];refine aa_ (fun e=>by simp at e; omega) (fun e=> ?_);exact h2 fun j hj=>hp j hj (by omega)
  | succ f ih=>
   intro i hf hi hp;have hil:i < st.snaps.length:=by omega
   rw[aP_.l2_eq];simp only[ah_];rw[ag_ g1,as_];refine aa_ (fun e=> ?_) (fun e=>by simp at e; omega);rw[ag_ g1,as_];refine ab_ rfl (ab_ (by simp; omega) ?_);obtain⟨l,rfl,r1,r2,_⟩:=h.snapG i hil;simp only[ah_,etn,Nat.zero_add,Nat.add_zero];rw[ag_ r1,aB_];refine aa_ (fun e=> ?_) (fun e=> ?_)
   ·exact h1 i hil (by simpa using e) hp
   ·rw[ar_ (by omega)];refine ih (i+1) (by omega) hil fun j hj hji=> ?_;rcases Nat.lt_or_eq_of_le (Nat.le_of_lt_succ hji) with q | q
    ·exact hp j hj q
    ·subst q; simpa using e
 exact go _ 0 rfl (Nat.zero_le _) (fun j hj h=>by omega)
theorem rn_ (h:cA_ B H sp a1 n1 a2 n2 a3 n3 st) (hn:st.snaps.length≤1000∧st.links.length≤1000∧st.inos.length≤1000) (hQ:Q (.g (.int .i64 ((st.snaps.length+st.links.length+st.inos.length:Nat):Int))) H):cQ_ [.g (.ptr (some (sp,0)))] H Q:=by
 obtain⟨g1,g2,g3⟩:=h.rd;refine⟨1,?_⟩;rw[l1_];simp only[ah_];rw[ag_ g1,as_,ag_ g2,as_,ag_ g3,as_];rw[h.l1,h.l2,h.l3];simp only[iH_];rw[cJ_ (n:=((st.snaps.length:Nat):Int)+((st.links.length:Nat):Int)) (by omega) (by omega),cJ_ (by omega) (by omega)];rw[show ((st.snaps.length:Nat):Int)+((st.links.length:Nat):Int)+((st.inos.length:Nat):Int)=((st.snaps.length+st.links.length+st.inos.length:Nat):Int) by omega];exact hQ
theorem Ce_ {l:List Int} {k:Int}:leI 0 (qP_ l k)=l.any fun x=>decide (x=k):=by
 have:= @rA_ l k;cases h:(l.any fun x=>decide (x=k)) with
 | true=>rw[h] at this; simp at this ⊢; omega
 | false=>rw[h] at this; simp at this ⊢; omega
theorem oh_ (h:cA_ B H sp a1 n1 a2 n2 a3 n3 st) (hn:st.snaps.length≤1000∧st.links.length≤1000) (hQ:Q (.g (.int .i64 (da_ st))) H):aE_ [.g (.ptr (some (sp,0)))] H Q:=by
 obtain⟨g1,g2,g3⟩:=h.rd;have etn:∀ k:Nat,tN (k:Int)=k:=fun _=>rfl;have hl2:=h.l2;have go2:∀ (f k F:Nat),f+k=256→1≤k→f*(st.links.length+2)+1≤F→Q (.g (.int .i64 (iA_ (k7_ st) f ((k:Nat):Int)))) H→aE_.l2 F (some (sp,0)) ((k:Nat):Int) H Q:=by
  intro f;induction f with
  | zero=>
   intro k F hk hk1 hF hQ;obtain⟨F,rfl⟩:∃ G,F=G+1:=⟨F - 1,by omega⟩;rw[aE_.l2_eq];exact aa_ (fun e=>by simp at e; omega) (fun _=>hQ)
  | succ f ih=>
   intro k F hk hk1 hF hQ;rw[Nat.succ_mul] at hF;generalize hW:f*(st.links.length+2)=W at hF ih;obtain⟨F,rfl⟩:∃ G,F=G+1:=⟨F - 1,by omega⟩;rw[aE_.l2_eq];refine aa_ (fun _=> ?_) (fun e=>by simp at e; omega);refine hy_ h hn.1 ?_;simp only[aK_,ak_];rw[Ce_,List.any_map];have go6:∀ (g i F:Nat),g=st.links.length - i→i≤st.links.length→g+1+W+1≤F→
    aE_.l6 F (some (sp,0)) ((k:Nat):Int) ((st.snaps.any fun x=>decide (x.2.id=((k:Nat):Int)))||(st.links.take i).any fun l=>decide (l.1.1=((k:Nat):Int))) ((i:Nat):Int) H Q:=by
    intro g;induction g with
    | zero=>
     intro i F hg hi hF;obtain⟨F,rfl⟩:∃ G,F=G+1:=⟨F - 1,by omega⟩;rw[aE_.l6_eq];simp only[ah_];rw[ag_ g2,as_];refine aa_ (fun e=>by simp at e; omega) (fun _=> ?_);rw[List.take_of_length_le (by omega)];rw[iA_] at hQ;refine aa_ (fun e=> ?_) (fun e=> ?_)
     ·rw[show k7_ st ((k:Nat):Int)=false from cR_ e] at hQ;exact hQ
     ·rw[show k7_ st ((k:Nat):Int)=true from c7_ e] at hQ;rw[ar_ (by omega)];refine ih (k+1) F (by omega) (by omega) (by omega) ?_;rw[show (((k+1:Nat)):Int)=((k:Nat):Int)+1 by omega];exact hQ
    | succ g ihg=>
     intro i F hg hi hF;have hil:i < st.links.length:=by omega
     obtain⟨F,rfl⟩:∃ G,F=G+1:=⟨F - 1,by omega⟩;rw[aE_.l6_eq];simp only[ah_];rw[ag_ g2,as_];refine aa_ (fun _=> ?_) (fun e=>by simp at e; omega);have w1:ad_ .i64 (((i:Nat):Int)+1)=((i+1:Nat):Int):=ar_ (by omega);have key:=ihg (i+1) F (by omega) hil (by omega);have ht:(st.links.take (i+1)).any (fun l=>decide (l.1.1=((k:Nat):Int)))=((st.links.take i).any (fun l=>decide (l.1.1=((k:Nat):Int)))||eqI st.links[i].1.1 ((k:Nat):Int)):=by
      rw[List.take_add_one,List.getElem?_eq_getElem hil,List.any_append];simp
     rw[ht,←Bool.or_assoc] at key;refine aa_ (fun e=> ?_) (fun e=> ?_)
     ·rw[e,Bool.true_or] at key;rw[w1]; exact key
     ·rw[e,Bool.false_or] at key;rw[ag_ g2,as_];refine ab_ rfl (ab_ (by simp; omega) ?_);obtain⟨l2,rfl,r1,_⟩:=h.linkG i hil;simp only[ah_,etn,Nat.zero_add,Nat.add_zero];rw[ag_ r1,ak_,w1];exact key
   have:=go6 _ 0 F rfl (Nat.zero_le _) (by omega);rw[List.take_zero,List.any_nil,Bool.or_false] at this;exact this
 refine⟨255*(st.links.length+2)+2,?_⟩;rw[kq_];exact go2 255 1 _ rfl (by omega) (by omega) hQ
theorem kx_ (h:cA_ B H sp a1 n1 a2 n2 a3 n3 st) (hn:st.inos.length≤1000) (hQ:Q (.g (.int .i64 (cK_ st))) H):aV_ [.g (.ptr (some (sp,0)))] H Q:=by
 have go2:∀ (f k F:Nat),f+k=256→1≤k→f+1≤F→Q (.g (.int .i64 (iA_ (fun k=>st.inos.any fun x=>decide (x.1=k)) f ((k:Nat):Int)))) H→aV_.l2 F (some (sp,0)) ((k:Nat):Int) H Q:=by
  intro f;induction f with
  | zero=>
   intro k F hk hk1 hF hQ;obtain⟨F,rfl⟩:∃ G,F=G+1:=⟨F - 1,by omega⟩;rw[aV_.l2_eq];exact aa_ (fun e=>by simp at e; omega) (fun _=>hQ)
  | succ f ih=>
   intro k F hk hk1 hF hQ;obtain⟨F,rfl⟩:∃ G,F=G+1:=⟨F - 1,by omega⟩;rw[aV_.l2_eq];refine aa_ (fun _=> ?_) (fun e=>by simp at e; omega);refine ex_ h hn ?_;simp only[aK_,ak_];rw[rA_,List.any_map];rw[iA_] at hQ;refine aa_ (fun e=> ?_) (fun e=> ?_)
   ·rw[show (st.inos.any fun x=>decide (x.1=((k:Nat):Int)))=false from cR_ e] at hQ;exact hQ
   ·rw[show (st.inos.any fun x=>decide (x.1=((k:Nat):Int)))=true from c7_ e] at hQ;rw[ar_ (by omega)];refine ih (k+1) F (by omega) (by omega) (by omega) ?_;rw[show (((k+1:Nat)):Int)=((k:Nat):Int)+1 by omega];exact hQ
 refine⟨258,?_⟩;rw[iR_];exact go2 255 1 _ rfl (by omega) (by omega) hQ
theorem e6_ (h:cA_ B H sp a1 n1 a2 n2 a3 n3 st) (hn:st.snaps.length≤1000∧st.links.length≤1000) (hQ:Q (.g (.int .i64 (gA_ st))) H):aZ_ [.g (.ptr (some (sp,0)))] H Q:=by
 obtain⟨g1,g2,g3⟩:=h.rd;refine⟨st.links.length+2,?_⟩;rw[kf_];have etn:∀ k:Nat,tN (k:Int)=k:=fun _=>rfl;have hl:=h.l2;have go:∀ (f i:Nat),f=st.links.length - i→i≤st.links.length→(∀ j (hj:j < st.links.length),j < i→(!(st.snaps.any fun x=>decide (x.2.id=st.links[j].1.1)))=false)→aZ_.l2 (f+1) (some (sp,0)) ((i:Nat):Int) H Q:=by
  intro f;induction f with
  | zero=>
   intro i hf hi hp;rw[aZ_.l2_eq];simp only[ah_];rw[ag_ g2,as_];refine aa_ (fun e=>by simp at e; omega) (fun e=> ?_);unfold gA_ at hQ;rw[wK_ (fun j hj=>hp j hj (by omega))] at hQ;exact hQ
  | succ f ih=>
   intro i hf hi hp;have hil:i < st.links.length:=by omega
   rw[aZ_.l2_eq];simp only[ah_];rw[ag_ g2,as_];refine aa_ (fun e=> ?_) (fun e=>by simp at e; omega);rw[ag_ g2,as_];refine ab_ rfl (ab_ (by simp; omega) ?_);obtain⟨l,rfl,r1,r2,_⟩:=h.linkG i hil;simp only[ah_,etn,Nat.zero_add,Nat.add_zero];rw[ag_ r1,ak_];refine hy_ h hn.1 ?_;simp only[aK_,ak_];rw[rA_,List.any_map];refine aa_ (fun e=> ?_) (fun e=> ?_)
   ·unfold gA_ at hQ;rw[z7_ hil e hp] at hQ;exact hQ
   ·rw[ar_ (by omega)];refine ih (i+1) (by omega) hil fun j hj hji=> ?_;rcases Nat.lt_or_eq_of_le (Nat.le_of_lt_succ hji) with q | q
    ·exact hp j hj q
    ·subst q; exact e
 exact go _ 0 rfl (Nat.zero_le _) (fun j hj h=>by omega)
theorem nR_ (h:cA_ B H sp a1 n1 a2 n2 a3 n3 st) (hn:st.snaps.length≤1000∧st.links.length≤1000) {s path:ByteArray} {x:SnapR} (hx:look st.snaps s=some x) (hQ:Q (.g (.int .i64 (jP_ st x.id path))) H):a1_ [.g (.ptr (some (sp,0))),.g (.str s),.g (.str path)] H Q:=by
 obtain⟨g1,g2,g3⟩:=h.rd;refine⟨st.links.length+2,?_⟩;rw[kg_];have etn:∀ k:Nat,tN (k:Int)=k:=fun _=>rfl;have hl:=h.l2;have hl1:=h.l1;simp only[ah_];rw[ag_ g1,as_];refine fz_ h hn.1 (fun k hk e hmin=> ?_) (fun q=> ?_)
 ·simp only[aK_,ak_];rw[ag_ g1,as_];refine⟨rfl,ab_ rfl (ab_ (by simp; omega) ?_)⟩;have hxk:st.snaps[k].2=x:=by
   unfold look at hx;have hf:st.snaps.find? (fun p=>decide (p.1=s))=some st.snaps[k]:=by
    rw[List.find?_eq_some_iff_getElem];exact⟨by simpa using e,k,hk,rfl,fun j hj=>by simpa using hmin j (by omega) hj⟩
   rw[hf] at hx;exact Option.some.inj hx
  obtain⟨l1,rfl,r1,r2,_⟩:=h.snapG k hk;simp only[ah_,etn,Nat.zero_add,Nat.add_zero];rw[ag_ r2,ak_,hxk];have go:∀ (f i:Nat),f=st.links.length - i→i≤st.links.length→(∀ j (hj:j < st.links.length),j < i→(decide (st.links[j].1.1=x.id)&&decide (st.links[j].1.2=path))=false)→a1_.l3 (f+1) (some (sp,0)) path x.id ((i:Nat):Int) H Q:=by
   intro f;induction f with
   | zero=>
    intro i hf hi hp;rw[a1_.l3_eq];simp only[ah_];rw[ag_ g2,as_];refine aa_ (fun e=>by simp at e; omega) (fun e=> ?_);unfold jP_ at hQ;rw[wK_ (fun j hj=>hp j hj (by omega))] at hQ;exact hQ
   | succ f ih=>
    intro i hf hi hp;have hil:i < st.links.length:=by omega
    rw[a1_.l3_eq];simp only[ah_];rw[ag_ g2,as_];refine aa_ (fun e=> ?_) (fun e=>by simp at e; omega);rw[ag_ g2,as_];refine ab_ rfl (ab_ (by simp; omega) ?_);obtain⟨l,rfl,r1,r2,_⟩:=h.linkG i hil;simp only[ah_,etn,Nat.zero_add,Nat.add_zero];rw[ag_ r1,ak_];have next:(decide (st.links[i].1.1=x.id)&&decide (st.links[i].1.2=path))=false→a1_.l3 (f+1) (some (sp,0)) path x.id (ad_ .i64 (((i:Nat):Int)+1)) H Q:=fun e=>by
     rw[ar_ (by omega)];refine ih (i+1) (by omega) hil fun j hj hji=> ?_;rcases Nat.lt_or_eq_of_le (Nat.le_of_lt_succ hji) with q | q
     ·exact hp j hj q
     ·subst q; exact e
    refine aa_ (fun e=> ?_) (fun e=> ?_)
    ·have e':st.links[i].1.1=x.id:=by simpa using e
     rw[ag_ g2,as_];refine ab_ rfl (ab_ (by simp; omega) ?_);simp only[ah_,etn,Nat.zero_add,Nat.add_zero];rw[ag_ r2,aB_];refine aa_ (fun e2=> ?_) (fun e2=> ?_)
     ·have e2':st.links[i].1.2=path:=by simpa using e2
      unfold jP_ at hQ;rw[z7_ hil (by rw[decide_eq_true e',decide_eq_true e2']; rfl) hp] at hQ;exact hQ
     ·have e2': ¬ st.links[i].1.2=path:=by simpa using e2
      exact next (by rw[decide_eq_false e2',Bool.and_false])
    ·have e': ¬ st.links[i].1.1=x.id:=by simpa using e
     exact next (by rw[decide_eq_false e',Bool.false_and])
  exact go _ 0 rfl (Nat.zero_le _) (fun j hj h=>by omega)
 ·have hm:=dl_ hx;obtain⟨j,hj,e⟩:=List.getElem_of_mem hm;exact absurd (by rw[e]) (q j hj)
end
end Go.Am
end
namespace Go.Am
structure vD_ (st:StD):Prop where
 snaps:(st.snaps.map (·.1)).Nodup
 links:(st.links.map (·.1)).Nodup
 inos:(st.inos.map (·.1)).Nodup
theorem df_ {α β:Type} [DecidableEq α] {ps:List (α × β)} (hn:(ps.map (·.1)).Nodup) {k:α} {v:β}:look ps k=some v↔(k,v)∈ps:=⟨dl_,fun h=>gv_ hn h⟩
theorem qE_ {α β:Type} [DecidableEq α] {ps:List (α × β)} {k:α}:(look ps k).isSome=true↔∃ v,(k,v)∈ps:=by
 rw[←oB_,List.any_eq_true];constructor
 ·rintro⟨x,hx,e⟩;have e':x.1=k:=by simpa using e
  exact⟨x.2,by rw[←e']; exact hx⟩
 ·rintro⟨v,h⟩; exact⟨_,h,by simp⟩
theorem dv_ {st:StD}:cW_ st=true↔(∀ l∈st.links,∃ y,(l.2.1,y)∈st.inos)∧∀ x∈st.inos,(eD_ st x.1:Int)=x.2.links:=by
 unfold cW_;rw[Bool.and_eq_true,List.all_eq_true,List.all_eq_true];constructor
 ·rintro⟨h1,h2⟩;refine⟨fun l hl=> ?_,fun x hx=>by simpa using h2 x hx⟩;have:=h1 l hl;rw[oB_] at this;exact qE_.1 this
 ·rintro⟨h1,h2⟩;refine⟨fun l hl=> ?_,fun x hx=>by simpa using h2 x hx⟩;rw[oB_];exact qE_.2 (h1 l hl)
structure Sto (st:StD):Prop where
 ok:xD_ st
 nd:vD_ st
 lk:cW_ st=true
theorem oo_ {α β:Type} [DecidableEq α] {ps:List (α × β)} (hn:(ps.map (·.1)).Nodup) {k:α} {v v0:β} (h:look ps k=some v0) (x:α × β):x∈f0_ ps k v↔x=(k,v)∨(x∈ps∧x.1≠k):=by
 unfold f0_;rw[h];dsimp only;rw[List.mem_map];constructor
 ·rintro⟨p,hp,e⟩;by_cases hk:p.1=k
  ·rw[if_pos hk] at e; exact .inl e.symm
  ·rw[if_neg hk] at e; subst e; exact .inr ⟨hp,hk⟩
 ·rintro (e | ⟨hx,hk⟩)
  ·exact⟨(k,v0),dl_ h,by rw[if_pos rfl,e]⟩
  ·exact⟨x,hx,by rw[if_neg hk]⟩
theorem tw_ {α β:Type} [DecidableEq α] {ps:List (α × β)} (hn:(ps.map (·.1)).Nodup) {k:α} {v v0:β} (h:look ps k=some v0):((f0_ ps k v).map (·.1)).Nodup:=by
 rw[lX_,h]; exact hn
theorem lm_ {α β:Type} {ps:List (α × β)} (hn:(ps.map (·.1)).Nodup) (p:α × β→Bool):((ps.filter p).map (·.1)).Nodup:=
 List.Nodup.sublist (List.Sublist.map _ List.filter_sublist) hn
def lu_ (inos:List (Int × InoR)) (k:Int) (y:InoR):List (Int × InoR):=(f0_ inos k ⟨y.links - 1,y.content⟩).filter fun x=>decide (0 < x.2.links)
def j2_ (st:StD) (i:Nat):StD:=match st.links[i]? with
 | none=>st
 | some l=>match look st.inos l.2.1 with
  | none=>st
  | some y=>⟨st.snaps,st.links.eraseIdx i,lu_ st.inos l.2.1 y⟩
theorem jH_ {α:Type}:∀ {l:List α} {i:Nat} (hi:i < l.length),(l[i]::l.eraseIdx i).Perm l
 | [],i,hi=>by cases hi
 | x::l,0,_=>List.Perm.refl _
 | x::l,i+1,hi=>by
  have hi':i < l.length:=by simpa using hi
  have:=jH_ hi';exact (List.Perm.swap x l[i] (l.eraseIdx i)).trans (this.cons x)
theorem o0_ {st:StD} {i:Nat} (hi:i < st.links.length) (ino:List (Int × InoR)) (n:Int):eD_ st n=eD_ ⟨st.snaps,st.links.eraseIdx i,ino⟩ n+(if st.links[i].2.1=n then 1 else 0):=by
 unfold eD_;rw[←(jH_ hi).countP_eq,List.countP_cons];by_cases h:st.links[i].2.1=n<;>simp [h]
theorem Sto.ino {st:StD} (h:Sto st) {l:LKey × LVal} (hl:l∈st.links):∃ y,look st.inos l.2.1=some y∧(l.2.1,y)∈st.inos∧1≤y.links∧y.links≤255∧(eD_ st l.2.1:Int)=y.links:=by
 obtain⟨y,hy⟩:=(dv_.1 h.lk).1 l hl;have hm:=(h.ok.inos _ hy).2;unfold d8_ at hm;simp only[Bool.and_eq_true] at hm;exact⟨y,(df_ h.nd.inos).2 hy,hy,by simpa using hm.1.1,by simpa using hm.1.2,(dv_.1 h.lk).2 _ hy⟩
theorem g5_ {st:StD} (h:Sto st) {i:Nat} (hi:i < st.links.length):∃ y,look st.inos st.links[i].2.1=some y∧j2_ st i=⟨st.snaps,st.links.eraseIdx i,lu_ st.inos st.links[i].2.1 y⟩:=by
 obtain⟨y,hy,_⟩:=h.ino (List.getElem_mem hi);refine⟨y,hy,?_⟩;unfold j2_;rw[List.getElem?_eq_getElem hi];dsimp only;rw[hy]
theorem uK_ {inos:List (Int × InoR)} (hn:(inos.map (·.1)).Nodup) {k:Int} {y:InoR} (h:look inos k=some y) (x:Int × InoR):x∈lu_ inos k y↔(x=(k,⟨y.links - 1,y.content⟩)∧1 < y.links)∨(x∈inos∧x.1≠k∧0 < x.2.links):=by
 unfold lu_;rw[List.mem_filter,oo_ hn h];simp only[decide_eq_true_eq];constructor
 ·rintro⟨e | ⟨h1,h2⟩,h3⟩
  ·subst e; exact .inl ⟨rfl,by dsimp only at h3; omega⟩
  ·exact .inr ⟨h1,h2,h3⟩
 ·rintro (⟨e,h3⟩ | ⟨h1,h2,h3⟩)
  ·subst e; exact⟨.inl rfl,by dsimp only; omega⟩
  ·exact⟨.inr ⟨h1,h2⟩,h3⟩
theorem lH_ {st:StD} (h:Sto st) {i:Nat} (hi:i < st.links.length):Sto (j2_ st i):=by
 obtain⟨y,hy,e⟩:=g5_ h hi;obtain⟨y',hy',hm',b1,b2,hc⟩:=h.ino (List.getElem_mem hi);rw[hy] at hy';cases hy';have hmem:=uK_ h.nd.inos hy;obtain⟨k1,k2⟩:=dv_.1 h.lk;rw[e];refine⟨⟨h.ok.snaps,fun l hl=>h.ok.links l (List.mem_of_mem_eraseIdx hl),fun x hx=> ?_⟩,⟨h.nd.snaps,?_,?_⟩,?_⟩
 ·rcases (hmem x).1 hx with⟨e,h1⟩ | ⟨h1,_⟩
  ·subst e;obtain⟨c1,c2⟩:=h.ok.inos _ hm';refine⟨c1,?_⟩;unfold d8_ at c2 ⊢;simp only[Bool.and_eq_true] at c2 ⊢;refine⟨⟨?_,?_⟩,c2.2⟩<;>simp<;>omega
  ·exact h.ok.inos x h1
 ·exact List.Nodup.sublist (List.Sublist.map _ (List.eraseIdx_sublist _ _)) h.nd.links
 ·exact lm_ (tw_ h.nd.inos hy) _
 ·rw[dv_];dsimp only;refine⟨fun l hl=> ?_,fun x hx=> ?_⟩
  ·by_cases hk:l.2.1=st.links[i].2.1
   ·refine⟨⟨y.links - 1,y.content⟩,(hmem _).2 (.inl ⟨by rw[hk],?_⟩)⟩;have hce:=o0_ hi (lu_ st.inos st.links[i].2.1 y) st.links[i].2.1;rw[if_pos rfl] at hce;have:0 < eD_ ⟨st.snaps,st.links.eraseIdx i,lu_ st.inos st.links[i].2.1 y⟩ st.links[i].2.1:=List.countP_pos_iff.2 ⟨l,hl,by simpa using hk⟩;omega
   ·obtain⟨z,hz⟩:=k1 l (List.mem_of_mem_eraseIdx hl);refine⟨z,(hmem _).2 (.inr ⟨hz,hk,?_⟩)⟩;have:=(h.ok.inos _ hz).2;unfold d8_ at this;simp only[Bool.and_eq_true] at this;have:=this.1.1;simp at this;dsimp only; omega
  ·rcases (hmem x).1 hx with⟨e,h1⟩ | ⟨h1,h2,_⟩
   ·subst e;dsimp only;have hce:=o0_ hi (lu_ st.inos st.links[i].2.1 y) st.links[i].2.1;rw[if_pos rfl] at hce;omega
   ·have hce:=o0_ hi (lu_ st.inos st.links[i].2.1 y) x.1;rw[if_neg (Ne.symm h2)] at hce;have:=k2 x h1;omega
theorem sB_ {st:StD} (h:Sto st) {i:Nat} (hi:i < st.links.length) {l:LKey × LVal} (hl:l∈(j2_ st i).links):bs_ (j2_ st i) l=bs_ st l:=by
 have h':=lH_ h hi;obtain⟨z,hz,hzm,_⟩:=h'.ino hl;obtain⟨y,hy,e⟩:=g5_ h hi;have hl':l∈st.links:=by rw[e] at hl; exact List.mem_of_mem_eraseIdx hl
 obtain⟨w,hw,hwm,_⟩:=h.ino hl';unfold bs_;rw[hz,hw];dsimp only;rw[e] at hzm;rcases (uK_ h.nd.inos hy _).1 hzm with⟨q,_⟩ | ⟨q,_⟩
 ·have q1:=congrArg Prod.fst q;have q2:=congrArg Prod.snd q;dsimp only at q1 q2;rw[q1,hy] at hw;cases hw;rw[q2]
 ·have:=(df_ h.nd.inos).2 q;rw[hw] at this;cases this; rfl
def ee_ (st:StD):Option Nat:=st.links.findIdx? fun l=> !(st.snaps.any fun x=>decide (x.2.id=l.1.1))
def kT_:Nat→StD→StD
 | 0,st=>st
 | f+1,st=>match ee_ st with | some i=>kT_ f (j2_ st i) | none=>st
def CJ_ (st:StD):StD:=kT_ st.links.length st
def eE_ (st:StD):Nat:=st.snaps.length+st.links.length+st.inos.length
def gq_ (st:StD):StD:=match decide (60 < eE_ st) with | true=>CJ_ st | false=>st
theorem jr_ {st:StD} {i:Nat} (h:ee_ st=some i):∃ hi:i < st.links.length,∀ x∈st.snaps,x.2.id≠st.links[i].1.1:=by
 unfold ee_ at h;rw[List.findIdx?_eq_some_iff_getElem] at h;obtain⟨hi,e,_⟩:=h;refine⟨hi,fun x hx q=> ?_⟩;have e':=cR_ e;rw[List.any_eq_false] at e';exact e' x hx (by simpa using q)
theorem vb_ {st:StD} (h:ee_ st=none):∀ l∈st.links,∃ x∈st.snaps,x.2.id=l.1.1:=by
 unfold ee_ at h;rw[List.findIdx?_eq_none_iff] at h;intro l hl;have e:=c7_ (h l hl);obtain⟨x,hx,e⟩:=List.any_eq_true.1 e;exact⟨x,hx,by simpa using e⟩
structure k9_ (st st':StD):Prop where
 sto:Sto st'
 snaps:st'.snaps=st.snaps
 sub:∀ l∈st'.links,l∈st.links
 all:∀ l∈st.links,(∃ x∈st.snaps,x.2.id=l.1.1)→l∈st'.links
 file:∀ l∈st'.links,bs_ st' l=bs_ st l
theorem k9_.refl {st:StD} (h:Sto st):k9_ st st:=⟨h,rfl,fun _ h=>h,fun _ h _=>h,fun _ _=>rfl⟩
theorem zV_ {st st':StD} (g:k9_ st st') {i:Nat} (e:ee_ st'=some i):k9_ st (j2_ st' i):=by
 obtain⟨hi,ho⟩:=jr_ e;obtain⟨y,hy,eq⟩:=g5_ g.sto hi;have hs:(j2_ st' i).snaps=st'.snaps:=by rw[eq]
 have hl:(j2_ st' i).links=st'.links.eraseIdx i:=by rw[eq]
 refine⟨lH_ g.sto hi,by rw[hs,g.snaps],fun l h=> ?_,fun l h hx=> ?_,fun l h=> ?_⟩
 ·rw[hl] at h; exact g.sub l (List.mem_of_mem_eraseIdx h)
 ·have h1:=g.all l h hx;rw[hl];have:=(jH_ hi).mem_iff (a:=l);rcases List.mem_cons.1 (this.2 h1) with q | q
  ·obtain⟨x,hx,e⟩:=hx;exact absurd (by rw[e,q]) (ho x (by rw[g.snaps]; exact hx))
  ·exact q
 ·rw[sB_ g.sto hi h];rw[hl] at h;exact g.file l (List.mem_of_mem_eraseIdx h)
theorem kY_:∀ (f:Nat) {st st':StD},k9_ st st'→k9_ st (kT_ f st')∧(st'.links.length≤f→ee_ (kT_ f st')=none)
 | 0,st,st',g=>⟨g,fun h=>by
  unfold kT_ ee_;have:st'.links=[]:=List.length_eq_zero_iff.1 (by omega);rw[this]; rfl⟩
 | f+1,st,st',g=>by
  unfold kT_;cases e:ee_ st' with
  | none=>exact⟨g,fun _=>e⟩
  | some i=>
   dsimp only;obtain⟨hi,_⟩:=jr_ e;obtain⟨h1,h2⟩:=kY_ f (zV_ g e);refine⟨h1,fun hl=>h2 ?_⟩;obtain⟨y,hy,eq⟩:=g5_ g.sto hi;rw[eq];dsimp only;rw[List.length_eraseIdx_of_lt hi]; omega
theorem xT_ {st:StD} (h:Sto st):k9_ st (gq_ st)∧(60 < eE_ st→ee_ (gq_ st)=none):=by
 unfold gq_;cases hm:decide (60 < eE_ st) with
 | false=>exact⟨k9_.refl h,fun q=>by simp at hm; omega⟩
 | true=>
  obtain⟨h1,h2⟩:=kY_ st.links.length (k9_.refl h);exact⟨h1,fun _=>h2 (Nat.le_refl _)⟩
end Go.Am
section
set_option maxRecDepth 100000
namespace Go.Am
theorem s3_ {α:Type} {f:α→List GV} {m:Nat} (hf:∀ x,(f x).length=m) {v:GV} {j:Nat} (hj:j < m) {x':α}:∀ (l:List α) (i:Nat) (hi:i < l.length),(f l[i]).set j v=f x'→(l.flatMap f).set (i*m+j) v=(l.set i x').flatMap f
 | [],i,hi,_=>by cases hi
 | x::l,0,hi,h=>by
  rw[List.flatMap_cons,Nat.zero_mul,Nat.zero_add,List.set_append_left _ _ (by rw[hf]; exact hj),List.set_cons_zero,List.flatMap_cons];rw[show (f x).set j v=f x' from h]
 | x::l,i+1,hi,h=>by
  rw[List.flatMap_cons,List.set_append_right _ _ (by rw[hf,Nat.succ_mul]; omega),List.set_cons_succ,List.flatMap_cons];rw[show (i+1)*m+j - (f x).length=i*m+j by rw[hf,Nat.succ_mul]; omega];rw[s3_ hf hj l i (by simpa using hi) h]
theorem th_ {α β:Type} [DecidableEq α] {ps:List (α × β)} (hn:(ps.map (·.1)).Nodup) {k:α} {v v0:β} {m:Nat} (hm:m < ps.length) (h:ps[m]=(k,v0)):f0_ ps k v=ps.set m (k,v):=by
 unfold f0_;have hl:look ps k=some v0:=gv_ hn (x:=(k,v0)) (by rw[←h]; exact List.getElem_mem hm);rw[hl];dsimp only;apply List.ext_getElem (by simp);intro j h1 h2;rw[List.getElem_map,List.getElem_set];have hj:j < ps.length:=by simpa using h1
 by_cases e:m=j
 ·subst e;rw[if_pos rfl,h,if_pos rfl]
 ·rw[if_neg e,if_neg];intro q;apply e;exact (List.getElem_inj (h₀:=by simpa using hm) (h₁:=by simpa using hj) hn).1 (by rw[List.getElem_map,List.getElem_map,h,q])
section
variable {B H:Hp} {Q:Post} {sp n1 n2 n3:Nat} {a1 a2 a3:Pl} {st:StD}
theorem cA_.setL (h:cA_ B H sp a1 n1 a2 n2 a3 n3 st) {G:Hp} (p:H<+:G) {a':Pl} {n':Nat} {ls:List (LKey × LVal)} (o:Own G H.length vh_ a' (n'*4) (ls.flatMap xy_)) (hl:n'=ls.length) {K:Hp→Prop}
 (hK:∀ G',G'.length=G.length→B<+:G'→cA_ B G' sp a1 n1 a' n' a3 n3 { st with links:=ls }→K G'):wr G sp (0+1) (.sl a' n' 4) K:=by
 have hG:=h.mono p;obtain⟨t,hr⟩:=hG.row;have hsp:=h.spl;refine c3_ hr (by simp) ?_;have hlt:=(List.getElem?_eq_some_iff.1 hr).1;have low:∀ l o,a'=some (l,o)→H.length≤l:=fun l o' e=>by
  rcases o with⟨q,_⟩ | ⟨l',e',hb,_⟩
  ·rw[q] at e; cases e
  ·rw[e'] at e; cases e; exact hb
 have hs':a'≠some (sp,0):=fun e=>by have:=low sp 0 e; omega
 have hB:=d2_ hG.pre hG.base (.row true t ([.sl a1 n1 5,.sl a2 n2 4,.sl a3 n3 3].set (0+1) (.sl a' n' 4)));refine hK _ (by simp) hB ⟨⟨t,by rw[List.getElem?_set_self hlt]; rfl⟩,hB,hG.base,hG.snaps.set h.s1 _,?_,hG.inos.set h.s3 _,h.l1,hl,h.l3,?_,h.d13,?_,h.s1,hs',h.s3⟩
 ·exact Own.set (o.base h.pre.length_le) hs' _
 ·intro l e1 e2;have:=h.snaps.lt' e1;have:=low l 0 e2;omega
 ·intro l e1 e2;have:=h.inos.lt' e2;have:=low l 0 e1;omega
theorem cA_.setI (h:cA_ B H sp a1 n1 a2 n2 a3 n3 st) {G:Hp} (p:H<+:G) {a':Pl} {n':Nat} {ls:List (Int × InoR)} (o:Own G H.length BW_ a' (n'*3) (ls.flatMap inoC)) (hl:n'=ls.length) {K:Hp→Prop}
 (hK:∀ G',G'.length=G.length→B<+:G'→cA_ B G' sp a1 n1 a2 n2 a' n' { st with inos:=ls }→K G'):wr G sp (0+2) (.sl a' n' 3) K:=by
 have hG:=h.mono p;obtain⟨t,hr⟩:=hG.row;have hsp:=h.spl;refine c3_ hr (by simp) ?_;have hlt:=(List.getElem?_eq_some_iff.1 hr).1;have low:∀ l o,a'=some (l,o)→H.length≤l:=fun l o' e=>by
  rcases o with⟨q,_⟩ | ⟨l',e',hb,_⟩
  ·rw[q] at e; cases e
  ·rw[e'] at e; cases e; exact hb
 have hs':a'≠some (sp,0):=fun e=>by have:=low sp 0 e; omega
 have hB:=d2_ hG.pre hG.base (.row true t ([.sl a1 n1 5,.sl a2 n2 4,.sl a3 n3 3].set (0+2) (.sl a' n' 3)));refine hK _ (by simp) hB ⟨⟨t,by rw[List.getElem?_set_self hlt]; rfl⟩,hB,hG.base,hG.snaps.set h.s1 _,hG.links.set h.s2 _,?_,h.l1,h.l2,hl,h.d12,?_,?_,h.s1,h.s2,hs'⟩
 ·exact Own.set (o.base h.pre.length_le) hs' _
 ·intro l e1 e2;have:=h.snaps.lt' e1;have:=low l 0 e2;omega
 ·intro l e1 e2;have:=h.links.lt' e1;have:=low l 0 e2;omega
theorem cA_.updI {lr:Nat} (h:cA_ B H sp a1 n1 a2 n2 (some (lr,0)) n3 st) {m:Nat} (hm:m < st.inos.length) (v:Int) {K:Hp→Prop}
 (hK:∀ G',G'.length=H.length→cA_ B G' sp a1 n1 a2 n2 (some (lr,0)) n3 { st with inos:=st.inos.set m (st.inos[m].1,⟨v,st.inos[m].2.content⟩) }→K G'):wr H lr (m*3+1) (.int .i64 v) K:=by
 obtain⟨t,hr⟩:=h.row;have hsp:=h.spl;have hl3:=h.l3;rcases h.inos with⟨q,_⟩ | ⟨l,e,hb,hri,hc⟩
 ·cases q
 ·cases e;have hmul:m*3+3≤n3*3:=by omega
  refine c3_ hri (by omega) ?_;have hne:lr≠sp:=fun e=>by rw[e] at hri; rw[hri] at hr; have:=h.s3; exact this (by rw[e])
  have hs:(st.inos.flatMap inoC).set (m*3+1) (.int .i64 v)=(st.inos.set m (st.inos[m].1,⟨v,st.inos[m].2.content⟩)).flatMap inoC:=s3_ (f:=inoC) (m:=3) (fun _=>rfl) (j:=1) (by omega) st.inos m hm rfl;have hlt:=(List.getElem?_eq_some_iff.1 hri).1;rw[hs];refine hK _ (by simp) ⟨⟨t,by rw[List.getElem?_set_ne hne]; exact hr⟩,d2_ h.pre hb _,h.base,h.snaps.set (fun e=>h.d13 lr e rfl) _,h.links.set (fun e=>h.d23 lr e rfl) _,.inr ⟨lr,rfl,hb,by rw[List.getElem?_set_self hlt],by rw[←hs]; simp [hc]⟩,h.l1,h.l2,by simpa using h.l3,h.d12,h.d13,h.d23,h.s1,h.s2,h.s3⟩
theorem sl_ {α:Type} {l:List α} {i j:Nat} (hj:j < l.length):(l.take (j+1)).eraseIdx i=if j=i then (l.take j).eraseIdx i else (l.take j).eraseIdx i++[l[j]]:=by
 rw[List.take_add_one,List.getElem?_eq_getElem hj,Option.toList_some,List.eraseIdx_append];have ht:(l.take j).length=j:=by rw[List.length_take]; omega
 rw[ht];by_cases h:j=i
 ·subst h;rw[if_neg (Nat.lt_irrefl _),if_pos rfl,Nat.sub_self];rw[show ([l[j]]:List α).eraseIdx 0=[] from rfl,List.append_nil,List.eraseIdx_of_length_le (by omega)]
 ·rw[if_neg h];by_cases h2:i < j
  ·rw[if_pos h2]
  ·rw[if_neg h2,List.eraseIdx_of_length_le (k:=i) (by omega)];rw[show ([l[j]]:List α).eraseIdx (i - j)=[l[j]] from by rw[show i - j=(i - j - 1)+1 by omega]; rfl]
theorem j1_ (h:cA_ B H sp a1 n1 a2 n2 a3 n3 st) (hS:Sto st) (hn:st.links.length≤1000∧st.inos.length≤1000) {i:Nat} (hi:i < st.links.length)
 (hQ:∀ H' a2' n2' a3' n3',cA_ B H' sp a1 n1 a2' n2' a3' n3' (j2_ st i)→Q (.tup []) H'):aF_ [.g (.ptr (some (sp,0))),.g (.int .i64 ((i:Nat):Int))] H Q:=by
 obtain⟨g1,g2,g3⟩:=h.rd;refine⟨st.links.length+st.inos.length+10,?_⟩;rw[l5_];have etn:∀ k:Nat,tN (k:Int)=k:=fun _=>rfl;have hl2:=h.l2;simp only[ah_];rw[ag_ g2,as_];refine ab_ rfl (ab_ (by simp; omega) ?_);obtain⟨y,hy,eq⟩:=g5_ hS hi;obtain⟨y',hy',hm',b1,b2,hc⟩:=hS.ino (List.getElem_mem hi);rw[hy] at hy';cases hy';obtain⟨m,hm,em,ey⟩:=qb_ hy;obtain⟨l2,e2,_,_,_,_,r5⟩:=h.linkG i hi;subst e2;simp only[ah_,etn,Nat.zero_add,Nat.add_zero];rw[ag_ r5,ak_];refine ex_ h hn.2 ?_;simp only[aK_,ak_];rw[em];have hls:∀ (ls:List (LKey × LVal)),ls.length≤st.links.length→ls.length*4≤4000:=fun ls h=>by omega
 have back:∀ (F:Nat) (G:Hp) (a2':Pl) (n2':Nat),st.inos.length+2≤F→cA_ B G sp a1 n1 a2' n2' a3 n3 ⟨st.snaps,st.links.eraseIdx i,f0_ st.inos st.links[i].2.1 ⟨y.links - 1,y.content⟩⟩→aF_.l11 F (some (sp,0)) none 0 0 G Q:=by
  intro F G a2' n2' hF hR;generalize hp:f0_ st.inos st.links[i].2.1 ⟨y.links - 1,y.content⟩=P at hR;have hPl:P.length=st.inos.length:=by rw[←hp,th_ hS.nd.inos hm ey]; simp
  have hl3:n3=P.length:=hR.l3;have go:∀ (f j F:Nat) (G':Hp) (a':Pl) (n':Nat),f=P.length - j→j≤P.length→f+1≤F→G<+:G'→Own G' G.length BW_ a' (n'*3) (((P.take j).filter fun x=>decide (0 < x.2.links)).flatMap inoC)→n'=((P.take j).filter fun x=>decide (0 < x.2.links)).length→
   aF_.l11 F (some (sp,0)) a' n' ((j:Nat):Int) G' Q:=by
   intro f;induction f with
   | zero=>
    intro j F G' a' n' hf hj hF hG' ho hn';obtain⟨F,rfl⟩:∃ G,F=G+1:=⟨F - 1,by omega⟩;obtain⟨g1,g2,g3⟩:=(hR.mono hG').rd;rw[aF_.l11_eq];simp only[ah_];rw[ag_ g3,as_];refine aa_ (fun e=>by simp at e; omega) (fun e=> ?_);rw[List.take_of_length_le (by omega)] at ho hn';refine hR.setI hG' ho hn' fun G'' _ _ hR'=>hQ G'' a2' n2' a' n' ?_;rw[eq];unfold lu_;rw[hp]; exact hR'
   | succ f ih=>
    intro j F G' a' n' hf hj hF hG' ho hn';have hjl:j < P.length:=by omega
    obtain⟨F,rfl⟩:∃ G,F=G+1:=⟨F - 1,by omega⟩;have hR':=hR.mono hG';obtain⟨g1,g2,g3⟩:=hR'.rd;rw[aF_.l11_eq];simp only[ah_];rw[ag_ g3,as_];refine aa_ (fun e=> ?_) (fun e=>by simp at e; omega);rw[ag_ g3,as_];refine ab_ rfl (ab_ (by simp; omega) ?_);obtain⟨l3,e3,q1,q2,q3⟩:=hR'.inoG j hjl;subst e3;simp only[ah_,etn,Nat.zero_add,Nat.add_zero];rw[ag_ q2,ak_];have w1:ad_ .i64 (((j:Nat):Int)+1)=((j+1:Nat):Int):=ar_ (by omega);have ht:(P.take (j+1)).filter (fun x=>decide (0 < x.2.links))=(P.take j).filter (fun x=>decide (0 < x.2.links))++(if 0 < P[j].2.links then [P[j]] else []):=by
     rw[List.take_add_one,List.getElem?_eq_getElem hjl,List.filter_append];congr 1;by_cases z:0 < P[j].2.links<;>simp [z]
    have hnl:((P.take j).filter fun x=>decide (0 < x.2.links)).length≤1000:=Nat.le_trans (List.length_filter_le _ _) (by rw[List.length_take]; omega);refine aa_ (fun e=> ?_) (fun e=> ?_)
    ·have e':0 < P[j].2.links:=by simpa using e
     rw[if_pos e'] at ht;rw[ag_ g3,as_];refine ab_ rfl (ab_ (by simp; omega) ?_);simp only[ah_,etn,Nat.zero_add,Nat.add_zero];rw[ag_ q1,ak_,ag_ q2,ak_,ag_ q3,aB_];refine ab_ rfl ?_;refine i6_ (H0:=G) (by omega) hG' ho (m:=1) rfl (by unfold Lim; omega) fun x' G'' o' ex fr=> ?_;rw[w1];refine ih (j+1) F G'' x' _ (by omega) hjl (by omega) ex.pre ?_ ?_
     ·rw[ht,List.flatMap_append,List.flatMap_singleton];exact o'
     ·rw[ht,List.length_append]; simp; omega
    ·have e': ¬ 0 < P[j].2.links:=by simpa using e
     rw[if_neg e',List.append_nil] at ht;rw[w1];exact ih (j+1) F G' a' n' (by omega) hjl (by omega) hG' (by rw[ht]; exact ho) (by rw[ht]; exact hn')
  exact go _ 0 F G none 0 rfl (Nat.zero_le _) (by omega) (List.prefix_refl _) (.inl ⟨rfl,rfl,rfl⟩) rfl
 have go:∀ (f j F:Nat) (G:Hp) (a':Pl) (n':Nat),f=st.links.length - j→j≤st.links.length→f+(st.inos.length+2)+1≤F→H<+:G→Own G H.length vh_ a' (n'*4) (((st.links.take j).eraseIdx i).flatMap xy_)→n'=((st.links.take j).eraseIdx i).length→
  aF_.l3 F (some (sp,0)) ((i:Nat):Int) ((m:Nat):Int) a' n' ((j:Nat):Int) G Q:=by
  intro f;induction f with
  | zero=>
   intro j F G a' n' hf hj hF hG ho hn';obtain⟨F,rfl⟩:∃ G,F=G+1:=⟨F - 1,by omega⟩;obtain⟨g1,g2,g3⟩:=(h.mono hG).rd;rw[aF_.l3_eq];simp only[ah_];rw[ag_ g2,as_];refine aa_ (fun e=>by simp at e; omega) (fun e=> ?_);rw[List.take_of_length_le (by omega)] at ho hn';refine h.setL hG ho hn' fun G1 _ _ hR=> ?_;obtain⟨g1',g2',g3'⟩:=hR.rd;rw[ag_ g3',as_];have hl3:=h.l3;refine ab_ rfl (ab_ (by simp; omega) ?_);obtain⟨l3,e3,q1,q2,q3⟩:=hR.inoG m hm;subst e3;simp only[ah_,etn,Nat.zero_add,Nat.add_zero];rw[ag_ q2,ak_];refine ab_ rfl (ab_ (by simp; omega) ?_);have hv:ad_ .i64 (st.inos[m].2.links - 1)=y.links - 1:=by rw[ey]; exact cJ_ (by dsimp only; omega) (by dsimp only; omega)
   rw[hv];refine hR.updI hm _ fun G2 hG2 hR2=> ?_;refine back F G2 a' n' (by omega) ?_;rw[th_ hS.nd.inos hm ey];have:(st.inos[m].1,(⟨y.links - 1,st.inos[m].2.content⟩:InoR))=(st.links[i].2.1,⟨y.links - 1,y.content⟩):=by rw[ey]
   rw[this] at hR2;exact hR2
  | succ f ih=>
   intro j F G a' n' hf hj hF hG ho hn';have hjl:j < st.links.length:=by omega
   obtain⟨F,rfl⟩:∃ G,F=G+1:=⟨F - 1,by omega⟩;have hR:=h.mono hG;obtain⟨g1,g2,g3⟩:=hR.rd;rw[aF_.l3_eq];simp only[ah_];rw[ag_ g2,as_];refine aa_ (fun e=> ?_) (fun e=>by simp at e; omega);have w1:ad_ .i64 (((j:Nat):Int)+1)=((j+1:Nat):Int):=ar_ (by omega);have ht:=sl_ (i:=i) hjl;have hnl:((st.links.take j).eraseIdx i).length≤1000:=Nat.le_trans (List.length_eraseIdx_le _ _) (by rw[List.length_take]; omega);refine aa_ (fun e=> ?_) (fun e=> ?_)
   ·have e': ¬ j=i:=by simp at e; omega
    rw[if_neg e'] at ht;rw[ag_ g2,as_];refine ab_ rfl (ab_ (by simp; omega) ?_);obtain⟨l2',e2',q1,q2,q3,q4,_⟩:=hR.linkG j hjl;cases e2';simp only[ah_,etn,Nat.zero_add,Nat.add_zero];rw[ag_ q1,ak_,ag_ q2,aB_,ag_ q3,ak_,ag_ q4,al_];refine ab_ rfl ?_;refine i6_ (H0:=H) (by omega) hG ho (m:=1) rfl (by unfold Lim; omega) fun x' G'' o' ex fr=> ?_;rw[w1];refine ih (j+1) F G'' x' _ (by omega) hjl (by omega) ex.pre ?_ ?_
    ·rw[ht,List.flatMap_append,List.flatMap_singleton];exact o'
    ·rw[ht,List.length_append]; simp; omega
   ·have e':j=i:=by simp at e; omega
    rw[if_pos e'] at ht;rw[w1];exact ih (j+1) F G a' n' (by omega) hjl (by omega) hG (by rw[ht]; exact ho) (by rw[ht]; exact hn')
 exact go _ 0 _ H none 0 rfl (Nat.zero_le _) (by omega) (List.prefix_refl _) (.inl ⟨rfl,rfl,rfl⟩) rfl
theorem pz_:∀ (f:Nat) {H:Hp} {a2:Pl} {n2:Nat} {a3:Pl} {n3:Nat} {st:StD},cA_ B H sp a1 n1 a2 n2 a3 n3 st→Sto st→st.snaps.length≤1000→st.links.length≤1000→st.inos.length≤1000→st.links.length≤f→
 (∀ H' a2' n2' a3' n3',cA_ B H' sp a1 n1 a2' n2' a3' n3' (kT_ f st)→Q (.tup []) H')→bk_.l0 (f+1) (some (sp,0)) H Q:=by
 intro f;induction f with
 | zero=>
  intro H a2 n2 a3 n3 st h hS k1 k2 k3 hf hQ;rw[bk_.l0_eq];refine e6_ h ⟨k1,k2⟩ ?_;simp only[aK_,ak_];have:gA_ st= -1:=by
   unfold gA_;have:st.links=[]:=List.length_eq_zero_iff.1 (by omega);rw[this]; rfl
  rw[this];refine aa_ (fun e=>by cases e) (fun _=> ?_);exact hQ H a2 n2 a3 n3 h
 | succ f ih=>
  intro H a2 n2 a3 n3 st h hS k1 k2 k3 hf hQ;rw[bk_.l0_eq];refine e6_ h ⟨k1,k2⟩ ?_;simp only[aK_,ak_];unfold kT_ at hQ;cases e:ee_ st with
  | none=>
   rw[e] at hQ;have:gA_ st= -1:=by unfold gA_; unfold ee_ at e; rw[e]
   rw[this];refine aa_ (fun e=>by cases e) (fun _=> ?_);exact hQ H a2 n2 a3 n3 h
  | some i=>
   rw[e] at hQ;obtain⟨hi,_⟩:=jr_ e;have:gA_ st=((i:Nat):Int):=by unfold gA_; unfold ee_ at e; rw[e]
   rw[this];refine aa_ (fun _=> ?_) (fun e=>by simp at e);refine e6_ h ⟨k1,k2⟩ ?_;simp only[aK_,ak_];rw[this];refine j1_ h hS ⟨k2,k3⟩ hi fun H' a2' n2' a3' n3' h'=> ?_;obtain⟨y,hy,eq⟩:=g5_ hS hi;refine ih h' (lH_ hS hi) (by rw[eq]; exact k1) ?_ ?_ ?_ hQ
   ·rw[eq]; dsimp only; rw[List.length_eraseIdx_of_lt hi]; omega
   ·rw[eq]; dsimp only; unfold lu_;refine Nat.le_trans (List.length_filter_le _ _) ?_;have:(f0_ st.inos st.links[i].2.1 ⟨y.links - 1,y.content⟩).length=st.inos.length:=by unfold f0_; rw[hy]; simp
    omega
   ·rw[eq]; dsimp only; rw[List.length_eraseIdx_of_lt hi]; omega
theorem hB_ (h:cA_ B H sp a1 n1 a2 n2 a3 n3 st) (hS:Sto st) (k:st.snaps.length≤1000∧st.links.length≤1000∧st.inos.length≤1000) (hm:eE_ (gq_ st)≤60)
 (hQ:∀ H' x',B<+:H'→TrK H' x' 48 (fu_ (gq_ st))→Q (.agg [.sl x' 48 5]) H'):bU_ [.g (.ptr (some (sp,0)))] H Q:=by
 refine⟨1,?_⟩;rw[mk_];refine rn_ h k ?_;simp only[aK_,ak_];unfold gq_ at hm hQ;refine aa_ (fun e=> ?_) (fun e=> ?_)
 ·have e':60 < eE_ st:=by unfold eE_; simp at e; omega
  rw[decide_eq_true e'] at hm hQ;dsimp only at hm hQ;refine⟨st.links.length+2,?_⟩;rw[kB_];refine pz_ st.links.length h hS k.1 k.2.1 k.2.2 (Nat.le_refl _) fun H' a2' n2' a3' n3' h'=> ?_;have hL:=(kY_ st.links.length (k9_.refl hS)).1;refine j6_ h' hL.sto.ok hm fun G x' pG hT=> ?_;simp only[f4_,bA_,as_,b0_];exact hQ G x' (h'.pre.trans pG) hT
 ·have e': ¬ 60 < eE_ st:=by unfold eE_; simp at e; omega
  rw[decide_eq_false e'] at hm hQ;dsimp only at hm hQ;refine j6_ h hS.ok hm fun G x' pG hT=> ?_;simp only[f4_,bA_,as_,b0_];exact hQ G x' (h.pre.trans pG) hT
end
end Go.Am
end
section
set_option maxRecDepth 100000
namespace Go.Am
theorem eP_.src {H:Hp} {b:Nat} {a:Pl} {cs:List GV} {is:List InfoR} (h:eP_ H b a cs is):∀ i (hi:i < is.length),∃ p,cs[i*5+4]? =some (.sl p is[i].files.length 3)∧cF_ H p is[i].files∧∀ l o,p=some (l,o)→b≤l∧∀ o',a≠some (l,o'):=by
 induction h with
 | nil=>intro i hi; cases hi
 | @cons p x cs is h1 h2 _ ih=>
  intro i hi;cases i with
  | zero=>exact⟨p,rfl,h1,h2⟩
  | succ i=>
   obtain⟨q,g1,g2⟩:=ih i (by simpa using hi);refine⟨q,?_,g2⟩;rw[List.getElem?_append_right (by simp [gi_]; omega),show (i+1)*5+4 - (gi_ p x).length=i*5+4 by simp [gi_]; omega];exact g1
theorem cg_.src {H:Hp} {b:Nat} {a:Pl} {is:List InfoR} (h:cg_ H b a is) (i:Nat) (hi:i < is.length):∃ l p,a=some (l,0)∧b≤l∧gt H l (i*5)=some (.str is[i].name)∧gt H l (i*5+1)=some (.int .i64 is[i].kind)∧gt H l (i*5+1+1)=some (.str is[i].parent)∧gt H l (i*5+1+1+1)=some (.str is[i].label)∧
 gt H l (i*5+1+1+1+1)=some (.sl p is[i].files.length 3)∧cF_ H p is[i].files∧(∀ l' o,p=some (l',o)→b≤l'∧l'≠l)∧∃ cs,H[l]? =some (.row true 49 cs)∧cs.length=is.length*5:=by
 rcases h with⟨_,rfl⟩ | ⟨l,cs,rfl,hb,hr,hc⟩
 ·cases hi
 ·obtain⟨p,g1,g2,g3,g4,g5,_⟩:=hc.at i hi;obtain⟨q,f1,f2,f3⟩:=hc.src i hi;rw[g5] at f1;cases f1;refine⟨l,p,rfl,hb,?_,?_,?_,?_,?_,f2,fun l' o e=>⟨(f3 l' o e).1,fun z=>(f3 l' o e).2 0 (by rw[z])⟩,cs,hr,hc.len⟩<;>rw[bO_ hr]<;>assumption
theorem cF_.cells {H:Hp} {p:Pl} {fs:List FileR} (h:cF_ H p fs):cells? H p (fs.length*3)=some (b2_ fs):=by
 rcases h with⟨rfl,rfl⟩ | ⟨l,rfl,h⟩
 ·rfl
 ·have hl:=ff_ fs;unfold cells?;simp only[h,Nat.zero_add];rw[List.drop_zero,←hl,List.take_length];simp
def xY_ (pis:List (Pl × InfoR)):List GV:=pis.flatMap fun q=>gi_ q.1 q.2
theorem CH_ {H:Hp} {b:Nat} {a:Pl} {pis:List (Pl × InfoR)} (h:Own H b 49 a (pis.length*5) (xY_ pis)) (hf:∀ q∈pis,eM_ H q.1 q.2.files):dq_ H a (pis.map (·.2)):=by
 intro i hi;rw[List.length_map] at hi;obtain⟨l,e,hg⟩:=vx_ h (by omega);have hc:∀ q:Pl × InfoR,(gi_ q.1 q.2).length=5:=fun _=>rfl;refine⟨l,0,(pis[i]).1,e,?_,?_,?_,?_,?_,?_⟩
 ·rw[hg,Nat.zero_add,List.getElem_map]; exact cY_ hc _ i hi 0 (by omega)
 ·rw[hg,Nat.zero_add,List.getElem_map]; exact cY_ hc _ i hi 1 (by omega)
 ·rw[hg,Nat.zero_add,List.getElem_map]; exact cY_ hc _ i hi 2 (by omega)
 ·rw[hg,Nat.zero_add,List.getElem_map]; exact cY_ hc _ i hi 3 (by omega)
 ·rw[hg,Nat.zero_add,List.getElem_map]; exact cY_ hc _ i hi 4 (by omega)
 ·rw[List.getElem_map]; exact hf _ (List.getElem_mem hi)
section
variable {H:Hp} {Q:Post}
theorem fX_ {b:Nat} {a:Pl} {is:List InfoR} (h:cg_ H b a is) (hn:is.length≤900) (hf:∀ i∈is,i.files.length≤100000) (hQ:∀ H' a',H<+:H'→cg_ H' H.length a' is→Q (.g (.sl a' is.length 5)) H'):a9_ [.g (.sl a is.length 5)] H Q:=by
 refine⟨is.length+2,?_⟩;rw[ui_];have etn:∀ k:Nat,tN (k:Int)=k:=fun _=>rfl;have go:∀ (f k:Nat) (G:Hp) (a':Pl),f=is.length - k→k≤is.length→H<+:G→cg_ G H.length a' (is.take k)→a9_.l3 (f+1) a is.length a' k ((k:Nat):Int) G Q:=by
  intro f;induction f with
  | zero=>
   intro k G a' hf' hk hG ha;rw[a9_.l3_eq];refine aa_ (fun e=>by simp at e; omega) (fun e=> ?_);have hke:k=is.length:=by omega
   rw[hke,List.take_length] at ha;rw[hke];exact hQ G a' hG ha
  | succ f ih=>
   intro k G a' hf' hk hG ha;have hkl:k < is.length:=by omega
   rw[a9_.l3_eq];refine aa_ (fun e=> ?_) (fun e=>by simp at e; omega);refine ab_ rfl (ab_ (by simp; omega) ?_);obtain⟨l,p,rfl,hbl,r1,r2,r3,r4,r5,r6,_⟩:=(h.pre hG).src k hkl;simp only[ah_,etn,Nat.zero_add,Nat.add_zero];rw[ag_ r1,aB_,ag_ r2,ak_,ag_ r3,aB_,ag_ r4,aB_,ag_ r5,as_];refine ab_ rfl ?_;rw[gM_ r6.cells];have hfk:=hf _ (List.getElem_mem hkl);refine⟨⟨by unfold Lim; omega,ff_ _⟩,?_⟩;simp only[e4_];refine ab_ rfl ?_;have hti:(is.take k).length=k:=by rw[List.length_take]; omega
   have key:=pQ_ (i:=is[k]) (K:=fun a'' n' G'=>a9_.l3 (f+1) (some (l,0)) is.length a'' n' (ad_ .i64 (((k:Nat):Int)+1)) G' Q) (p:=some (G.length,0)) (ha.pre (ce_ G (.row true 51 (b2_ is[k].files)))) (by rw[List.length_append]; have:=hG.length_le; omega) (.inr ⟨G.length,rfl,by simp⟩) (fun l' o e=>by
    cases e;exact⟨hG.length_le,fun o' q=>by subst q; have:=ha.lt; omega⟩) (by omega) fun a'' G' ha' hk' hl'=>by
    rw[List.length_append,hti,List.length_singleton,ar_ (by omega)];refine ih (k+1) G' a'' (by omega) hkl (xI_ (by have:=hG.length_le; rw[List.length_append] at hl'; omega) fun l hl=> ?_) ?_
    ·rw[hk' l hl,List.getElem?_append_left (by have:=hG.length_le; omega),cd_ hG hl]
    ·rw[List.take_add_one,List.getElem?_eq_getElem hkl]; exact ha'
   rw[hti] at key;exact key
 exact go _ 0 H none rfl (Nat.zero_le _) (List.prefix_refl _) (.inl ⟨rfl,by simp⟩)
theorem ns_ {a:Pl} {is:List InfoR} (h:dq_ H a is) (hn:is.length≤900) {m:Nat} (hQ:∀ H' a',H<+:H'→dq_ H' a' (is.eraseIdx m)→Q (.g (.sl a' (is.eraseIdx m).length 5)) H'):bD_ [.g (.sl a is.length 5),.g (.int .i64 ((m:Nat):Int))] H Q:=by
 refine⟨is.length+2,?_⟩;rw[pr_];have etn:∀ k:Nat,tN (k:Int)=k:=fun _=>rfl;have go:∀ (f k:Nat) (G:Hp) (a':Pl) (n':Nat) (pis:List (Pl × InfoR)),f=is.length - k→k≤is.length→H<+:G→Own G H.length 49 a' (n'*5) (xY_ pis)→n'=pis.length→(∀ q∈pis,eM_ H q.1 q.2.files)→pis.map (·.2)=(is.take k).eraseIdx m→
  bD_.l3 (f+1) a is.length ((m:Nat):Int) a' n' ((k:Nat):Int) G Q:=by
  intro f;induction f with
  | zero=>
   intro k G a' n' pis hf' hk hG ho hn' hp he;rw[bD_.l3_eq];refine aa_ (fun e=>by simp at e; omega) (fun e=> ?_);rw[List.take_of_length_le (by omega)] at he;subst hn';have hr:=CH_ ho fun q hq=>(hp q hq).pre hG;have:=hQ G a' hG;rw[←he,List.length_map] at this;exact this hr
  | succ f ih=>
   intro k G a' n' pis hf' hk hG ho hn' hp he;have hkl:k < is.length:=by omega
   rw[bD_.l3_eq];refine aa_ (fun e=> ?_) (fun e=>by simp at e; omega);have w1:ad_ .i64 (((k:Nat):Int)+1)=((k+1:Nat):Int):=ar_ (by omega);have ht:=sl_ (i:=m) hkl;have hnl:pis.length≤900:=by
    have:=congrArg List.length he;rw[List.length_map] at this;rw[this];exact Nat.le_trans (List.length_eraseIdx_le _ _) (by rw[List.length_take]; omega)
   refine aa_ (fun e=> ?_) (fun e=> ?_)
   ·have e': ¬ k=m:=by simp at e; omega
    rw[if_neg e'] at ht;refine ab_ rfl (ab_ (by simp; omega) ?_);obtain⟨l,o,p,rfl,r1,r2,r3,r4,r5,r6⟩:=(h.pre hG) _ hkl;have r6':eM_ H p is[k].files:=by
     obtain⟨l',o',p',e1,_,_,_,_,q5,q6⟩:=h k hkl;cases e1;have:=dF_ hG q5;rw[r5] at this;cases this;exact q6
    simp only[ah_,etn];rw[ag_ r1,aB_,ag_ r2,ak_,ag_ r3,aB_,ag_ r4,aB_,ag_ r5,as_];refine ab_ rfl ?_;refine i6_ (H0:=H) (by omega) hG ho (m:=1) rfl (by unfold Lim; omega) fun x' G' o' ex fr=> ?_;rw[w1];refine ih (k+1) G' x' _ (pis++[(p,is[k])]) (by omega) hkl ex.pre ?_ (by rw[List.length_append,hn']; rfl) (fun q hq=> ?_) (by rw[ht,List.map_append,he]; rfl)
    ·unfold xY_;rw[List.flatMap_append,List.flatMap_singleton];exact o'
    ·rcases List.mem_append.1 hq with z | z
     ·exact hp q z
     ·have:q=(p,is[k]):=by simpa using z
      subst this; exact r6'
   ·have e':k=m:=by simp at e; omega
    rw[if_pos e'] at ht;rw[w1];exact ih (k+1) G a' n' pis (by omega) hkl hG ho hn' hp (by rw[ht]; exact he)
 exact go _ 0 H none 0 [] rfl (Nat.zero_le _) (List.prefix_refl _) (.inl ⟨rfl,rfl,rfl⟩) rfl (fun q hq=>by cases hq) (by simp)
theorem j9_ {a p:Pl} {is:List InfoR} {s1 s3 s4:ByteArray} {k2:Int} {m:Nat} (h:dq_ H a is) (hn:is.length≤900) (hQ:∀ H' a' n',H<+:H'→Q (.g (.sl a' n' 5)) H'):
 a2_ [.g (.sl a is.length 5),.agg [.str s1,.int .i64 k2,.str s3,.str s4,.sl p m 3]] H Q:=by
 refine⟨2*is.length+2,?_⟩;rw[tZ_];have etn:∀ k:Nat,tN (k:Int)=k:=fun _=>rfl;have go:∀ (f k F:Nat) (G:Hp) (a':Pl) (n':Nat) (cs:List GV) (d:Bool),f=is.length - k→k≤is.length→2*f+1≤F→H<+:G→Own G H.length 49 a' (n'*5) cs→n'≤k+(match d with | true=>1 | false=>0)→
  a2_.l4 F a is.length s1 k2 s3 s4 p m a' n' d ((k:Nat):Int) G Q:=by
  intro f;induction f with
  | zero=>
   intro k F G a' n' cs d hf' hk hF hG ho hn';have hn2:n'≤k+1:=by cases d<;>dsimp only at hn'<;>omega
   obtain⟨F,rfl⟩:∃ G,F=G+1:=⟨F - 1,by omega⟩;rw[a2_.l4_eq];refine aa_ (fun e=>by simp at e; omega) (fun e=> ?_);refine aa_ (fun e=> ?_) (fun e=>hQ G a' n' hG);refine ab_ rfl ?_;exact i6_ (H0:=H) (by omega) hG ho (m:=1) rfl (by unfold Lim; omega) fun x' G' o' ex fr=>hQ G' _ _ ex.pre
  | succ f ih=>
   intro k F G a' n' cs d hf' hk hF hG ho hn';have hkl:k < is.length:=by omega
   obtain⟨F,rfl⟩:∃ G,F=G+1+1:=⟨F - 2,by omega⟩;rw[a2_.l4_eq];refine aa_ (fun e=> ?_) (fun e=>by simp at e; omega);have w1:ad_ .i64 (((k:Nat):Int)+1)=((k+1:Nat):Int):=ar_ (by omega);have next:∀ (G:Hp) (a':Pl) (n':Nat) (cs:List GV) (d:Bool),H<+:G→Own G H.length 49 a' (n'*5) cs→n'≤k+(match d with | true=>1 | false=>0)→a2_.l9 (F+1) a is.length s1 k2 s3 s4 p m a' n' d ((k:Nat):Int) G Q:=by
    intro G a' n' cs d hG ho hn';have hn2:n'≤k+1:=by cases d<;>dsimp only at hn'<;>omega
    rw[a2_.l9_eq];refine ab_ rfl (ab_ (by simp; omega) ?_);obtain⟨l,o,p',e',r1,r2,r3,r4,r5,r6⟩:=(h.pre hG) _ hkl;rw[e'];simp only[ah_,etn];rw[ag_ r1,aB_,ag_ r2,ak_,ag_ r3,aB_,ag_ r4,aB_,ag_ r5,as_];refine ab_ rfl ?_;refine i6_ (H0:=H) (by omega) hG ho (m:=1) rfl (by unfold Lim; omega) fun x' G' o' ex fr=> ?_;rw[w1,←e'];exact ih (k+1) F G' x' _ _ d (by omega) hkl (by omega) ex.pre o' (by cases d<;>dsimp only at hn' ⊢ <;>omega)
   refine aa_ (fun ed=> ?_) (fun ed=>next G a' n' cs d hG ho hn');have hd:d=false:=cR_ ed;subst hd;dsimp only at hn';refine ab_ rfl (ab_ (by simp; omega) ?_);obtain⟨l,o,p',e',r1,r2,r3,r4,r5,r6⟩:=(h.pre hG) _ hkl;rw[e'];simp only[ah_,etn,Nat.add_zero];rw[ag_ r1,aB_];refine aa_ (fun e=> ?_) (fun e=> ?_)
   ·refine ab_ rfl ?_;refine i6_ (H0:=H) (by omega) hG ho (m:=1) rfl (by unfold Lim; omega) fun x' G' o' ex fr=> ?_;rw[←e'];exact next G' x' _ _ true ex.pre o' (by dsimp only; omega)
   ·rw[←e'];exact next G a' n' cs false hG ho (by dsimp only; omega)
 exact go _ 0 _ H none 0 [] false rfl (Nat.zero_le _) (by omega) (List.prefix_refl _) (.inl ⟨rfl,rfl,rfl⟩) (by dsimp only; omega)
theorem oF_ {p:Pl} {fs:List FileR} {s:ByteArray} (h:eM_ H p fs) (hn:fs.length≤100000)
 (h1:∀ k (hk:k < fs.length),fs[k].1=s→Q (.g (.int .i64 ((k:Nat):Int))) H) (h2:(∀ f∈fs,f.1≠s)→Q (.g (.int .i64 (-1))) H):bW_ [.g (.sl p fs.length 3),.g (.str s)] H Q:=by
 refine⟨fs.length+2,?_⟩;rw[q7_];have etn:∀ k:Nat,tN (k:Int)=k:=fun _=>rfl;have go:∀ (f k:Nat),f=fs.length - k→k≤fs.length→(∀ j (hj:j < fs.length),j < k→fs[j].1≠s)→bW_.l2 (f+1) p fs.length s ((k:Nat):Int) H Q:=by
  intro f;induction f with
  | zero=>
   intro k hf hk hp;rw[bW_.l2_eq];refine aa_ (fun e=>by simp at e; omega) (fun _=>h2 fun f hf=> ?_);obtain⟨j,hj,rfl⟩:=List.getElem_of_mem hf;exact hp j hj (by omega)
  | succ f ih=>
   intro k hf hk hp;have hkl:k < fs.length:=by omega
   rw[bW_.l2_eq];refine aa_ (fun e=> ?_) (fun e=>by simp at e; omega);refine ab_ rfl (ab_ (by simp; omega) ?_);obtain⟨l,o,rfl,r1,_⟩:=h _ hkl;simp only[ah_,etn,Nat.add_zero];rw[ag_ r1,aB_];refine aa_ (fun e=>h1 k hkl (by simpa using e)) (fun e=> ?_);rw[ar_ (by omega)];refine ih (k+1) (by omega) hkl fun j hj hjk=> ?_;rcases Nat.lt_or_eq_of_le (Nat.le_of_lt_succ hjk) with z | z
   ·exact hp j hj z
   ·subst z; simpa using e
 exact go _ 0 rfl (Nat.zero_le _) fun j hj h=>by omega
def ed_ (is:List InfoR) (s:ByteArray):Int:=match cv_ is s with | none=>1903 | some i=>match eqI i.kind 0 with | true=>0 | false=>1905
theorem r8_ {is:List InfoR} {s:ByteArray} (ha:gC_ is) (hin:(is.any fun y=>decide (y.name=s))=true):∃ hp:dn_ is s < is.length,cv_ is s=some is[dn_ is s]:=by
 obtain⟨hp,hnm⟩:=k3_ ha hin;obtain⟨a1,a2⟩:=iZ_ (s:=s) ha;rw[a1] at hin;obtain⟨i,hf⟩:=Option.isSome_iff_exists.1 hin;have:=a2 i hf;rw[List.getElem?_eq_getElem hp] at this;exact⟨hp,by rw[hf,←Option.some.inj this]⟩
theorem lD_ {is:List InfoR} {s:ByteArray} (ha:gC_ is) (hin:(is.any fun y=>decide (y.name=s))=false):cv_ is s=none:=by
 rw[(iZ_ (s:=s) ha).1] at hin;cases hf:cv_ is s with
 | none=>rfl
 | some i=>rw[hf] at hin; cases hin
theorem ir_ {a:Pl} {is:List InfoR} {s:ByteArray} (h:dq_ H a is) (ha:gC_ is) (hn:is.length≤1000)
 (h1:∀ e,e≠0→ed_ is s=e→Q (.tup [.s (.int .i64 0),.s (.int .i64 e)]) H)
 (h2:ed_ is s=0→∀ hp:dn_ is s < is.length,cv_ is s=some is[dn_ is s]→Q (.tup [.s (.int .i64 ((dn_ is s:Nat):Int)),.s (.int .i64 0)]) H):
 dd_ [.g (.sl a is.length 5),.g (.str s)] H Q:=by
 refine⟨1,?_⟩;rw[q2_];have etn:∀ k:Nat,tN (k:Int)=k:=fun _=>rfl;refine eN_ h ha hn (fun hin=> ?_) (fun hin=> ?_)
 ·simp only[aK_,ak_];obtain⟨hp,hf⟩:=r8_ ha hin;refine aa_ (fun e=>by simp at e; omega) (fun _=> ?_);refine ab_ rfl (ab_ (by simp; omega) ?_);obtain⟨l,o,p,rfl,r1,r2,_⟩:=h _ hp;simp only[ah_,etn];rw[ag_ r2,ak_];refine aa_ (fun e=>h1 1905 (by decide) (by unfold ed_; rw[hf]; dsimp only; rw[cR_ e])) (fun e=>h2 (by unfold ed_; rw[hf]; dsimp only; rw[c7_ e]) hp hf)
 ·simp only[aK_,ak_];refine aa_ (fun _=>h1 1903 (by decide) (by unfold ed_; rw[lD_ ha hin])) (fun e=>by simp at e)
end
end Go.Am
end
section
set_option maxRecDepth 100000
namespace Go.Am
def iP_ (is:List InfoR) (parent:ByteArray):Bool:=decide (parent=mkS [])||(match cv_ is parent with | none=>false | some y=>eqI y.kind 2)
def ga_ (is:List InfoR) (name parent:ByteArray) (kind:Int):Int:=match bm_ name 4 with
 | false=>1901
 | true=>match decide (parent=mkS [])||bm_ parent 4 with
  | false=>1901
  | true=>match eqI kind 0||eqI kind 1 with
   | false=>1905
   | true=>match (cv_ is name).isSome with
    | true=>1902
    | false=>match iP_ is parent with
     | false=>1904
     | true=>match leI 6 (is.length:Int) with
      | true=>1910
      | false=>0
theorem sP_ {is:List InfoR}:∀ (f k:Nat),f=is.length - k→bt_ is f k=true→∀ j (hj:j < is.length),k≤j→cD_ is[j]=true
 | 0,k,hf,h=>fun j hj hkj=>by omega
 | f+1,k,hf,h=>fun j hj hkj=>by
  rw[bt_] at h;have hk:k < is.length:=by omega
  rw[List.getElem?_eq_getElem hk] at h;dsimp only at h;simp only[Bool.and_eq_true] at h;rcases Nat.lt_or_eq_of_le hkj with q | q
  ·exact sP_ f (k+1) (by omega) h.2.2 j hj q
  ·subst q; exact h.1
theorem wO_ {is:List InfoR} (h:bt_ is is.length 0=true):∀ i∈is,cD_ i=true:=fun i hi=>by
 obtain⟨j,hj,rfl⟩:=List.getElem_of_mem hi;exact sP_ _ 0 rfl h j hj (Nat.zero_le _)
theorem xg_ {i:InfoR} (h:cD_ i=true):bm_ i.name 4=true:=by
 unfold cD_ at h;rw[Bool.and_eq_true] at h;exact h.1
theorem Ac_ {is:List InfoR} (h:bt_ is is.length 0=true):(is.any fun y=>decide (y.name=mkS []))=false:=by
 rw[List.any_eq_false];intro x hx e;have:=et_ (xg_ (wO_ h x hx));have e':x.name=mkS []:=by simpa using e
 rw[e',c5_] at this;simp at this
section
variable {H:Hp} {Q:Post}
theorem mR_ {b:Nat} {a:Pl} {is:List InfoR} {name parent:ByteArray} {kind:Int} (h:cg_ H b a is) (ha:gC_ is) (hf:bt_ is is.length 0=true) (hn:is.length≤900)
 (hsz:∀ x∈is,x.name.size≤140737488351232∧x.files.length≤100000∧∀ f∈x.files,f.1.size≤140737488351232) (hs1:name.size≤140737488351232) (hs2:parent.size≤140737488351232)
 (hQ:∀ H' a' n',H<+:H'→Q (.tup [.s (.sl a' n' 5),.s (.int .i64 (ga_ is name parent kind))]) H'):
 a8_ [.g (.sl a is.length 5),.g (.str name),.g (.str parent),.g (.int .i64 kind)] H Q:=by
 refine⟨100010,?_⟩;rw[o4_];have etn:∀ k:Nat,tN (k:Int)=k:=fun _=>rfl;have hrd:=h.rd;have hfl:∀ i∈is,i.files.length≤100000:=fun i hi=>(hsz i hi).2.1;have copy:∀ {m:Nat} {p:Pl} {G:Hp},ga_ is name parent kind=0→H<+:G→cl a9_ [(.g (.sl a is.length 5))] G fun r24 H25=>
  rG r24 fun v26=>
  dL 5 v26 fun x27 n28=>
  cl a2_ [(.g (.sl x27 n28 5)),(.agg [(.str name),(.int .i64 kind),(.str parent),(.str (mkS [])),(.sl p m 3)])] H25 fun r29 H30=>
  rG r29 fun v31=>
  dL 5 v31 fun x32 n33=>
  Q (.tup [(.s (.sl x32 n33 5)),(.s (.int .i64 0))]) H30:=fun {m p G} e hG=>by
  refine fX_ (h.pre hG) hn hfl fun H1 a1 p1 h1=> ?_;simp only[aK_,as_];refine j9_ h1.rd hn fun H2 a2 n2 p2=> ?_;simp only[aK_,as_];have:=hQ H2 a2 n2 (hG.trans (p1.trans p2));rw[e] at this;exact this
 have l17:ga_ is name parent kind=0→∀ hp:dn_ is parent < is.length,∀ (f j F:Nat) (G:Hp) (a':Pl) (n':Nat) (cs:List GV),f=is[dn_ is parent].files.length - j→j≤is[dn_ is parent].files.length→f+1≤F→H<+:G→Own G H.length 51 a' (n'*3) cs→n'≤j→
  a8_.l17 F a is.length ((dn_ is parent:Nat):Int) name kind parent (mkS []) a' n' ((j:Nat):Int) G Q:=by
  intro e0 hp f;obtain⟨l,o,p,e1,r1,r2,r3,r4,r5,r6⟩:=hrd _ hp;have hfk:=hfl _ (List.getElem_mem hp);induction f with
  | zero=>
   intro j F G a' n' cs hf' hj hF hG ho hn';obtain⟨F,rfl⟩:∃ G,F=G+1:=⟨F - 1,by omega⟩;rw[a8_.l17_eq];refine ab_ rfl (ab_ (by simp; omega) ?_);rw[e1];simp only[ah_,etn];rw[ag_ (dF_ hG r5),as_];refine aa_ (fun e=>by simp at e<;>omega) (fun _=> ?_);rw[←e1];exact copy e0 hG
  | succ f ih=>
   intro j F G a' n' cs hf' hj hF hG ho hn';have hjl:j < is[dn_ is parent].files.length:=by omega
   obtain⟨F,rfl⟩:∃ G,F=G+1:=⟨F - 1,by omega⟩;rw[a8_.l17_eq];refine ab_ rfl (ab_ (by simp; omega) ?_);rw[e1];simp only[ah_,etn];rw[ag_ (dF_ hG r5),as_];refine aa_ (fun e=> ?_) (fun e=>by simp at e<;>omega);refine ab_ rfl (ab_ (by simp; omega) ?_);rw[ag_ (dF_ hG r5),as_];refine ab_ rfl (ab_ (by simp; omega) ?_);obtain⟨l2,o2,rfl,q1,q2,q3⟩:=(r6.pre hG) _ hjl;simp only[ah_,etn];rw[ag_ q1,aB_,ag_ q2,aB_,ag_ q3,al_];refine ab_ rfl ?_;refine i6_ (H0:=H) (by omega) hG ho (m:=1) rfl (by unfold Lim; omega) fun x' G' o' ex fr=> ?_;rw[ar_ (by omega),←e1];exact ih (j+1) F G' x' _ _ (by omega) hjl (by omega) ex.pre o' (by omega)
 have rest:∀ i3:Int,((i3=((dn_ is parent:Nat):Int)∧(is.any fun y=>decide (y.name=parent))=true)∨(i3= -1∧(is.any fun y=>decide (y.name=parent))=false))→bm_ name 4=true→(decide (parent=mkS [])||bm_ parent 4)=true→(eqI kind 0||eqI kind 1)=true→
  cl bQ_ [(.g (.sl a is.length 5)),(.g (.str name))] H fun r16 H17=>
   rG r16 fun v18=>
   dI .i64 v18 fun i19=>
   af_ (leI 0 i19)
   (Q (.tup [(.s (.sl none 0 5)),(.s (.int .i64 1902))]) H17)
   (af_ (!(co_ parent (mkS [])))
    (af_ (ltI i3 0)
     (Q (.tup [(.s (.sl none 0 5)),(.s (.int .i64 1904))]) H17)
     (chk true (chk ((leI 0 i3)&&(ltI i3 (nI is.length))) (pS a fun n20 n21=>
      rd H17 n20 ((n21+((tN i3)*5))+1) fun v22=>
      dI .i64 v22 fun i23=>
      af_ (!(eqI i23 2))
      (Q (.tup [(.s (.sl none 0 5)),(.s (.int .i64 1904))]) H17)
      (af_ (leI 6 (nI is.length))
       (Q (.tup [(.s (.sl none 0 5)),(.s (.int .i64 1910))]) H17)
       (af_ (leI 0 i3)
        (a8_.l17 100009 a is.length i3 name kind parent (mkS []) none 0 0 H17 Q)
        (cl a9_ [(.g (.sl a is.length 5))] H17 fun r24 H25=>
         rG r24 fun v26=>
         dL 5 v26 fun x27 n28=>
         cl a2_ [(.g (.sl x27 n28 5)),(.agg [(.str name),(.int .i64 kind),(.str parent),(.str (mkS [])),(.sl none 0 3)])] H25 fun r29 H30=>
         rG r29 fun v31=>
         dL 5 v31 fun x32 n33=>
         Q (.tup [(.s (.sl x32 n33 5)),(.s (.int .i64 0))]) H30)))))))
    (af_ (leI 6 (nI is.length))
     (Q (.tup [(.s (.sl none 0 5)),(.s (.int .i64 1910))]) H17)
     (af_ (leI 0 i3)
      (a8_.l17 100009 a is.length i3 name kind parent (mkS []) none 0 0 H17 Q)
      (cl a9_ [(.g (.sl a is.length 5))] H17 fun r34 H35=>
       rG r34 fun v36=>
       dL 5 v36 fun x37 n38=>
       cl a2_ [(.g (.sl x37 n38 5)),(.agg [(.str name),(.int .i64 kind),(.str parent),(.str (mkS [])),(.sl none 0 3)])] H35 fun r39 H40=>
       rG r39 fun v41=>
       dL 5 v41 fun x42 n43=>
       Q (.tup [(.s (.sl x42 n43 5)),(.s (.int .i64 0))]) H40)))):=by
  intro i3 hi3 w1 w2 w3;have e0:ga_ is name parent kind=match (cv_ is name).isSome with
   | true=>1902
   | false=>match iP_ is parent with
    | false=>1904
    | true=>match leI 6 (is.length:Int) with
     | true=>1910
     | false=>0:=by unfold ga_; rw[w1,w2,w3]
  have h0:=hQ H none 0 (List.prefix_refl _);refine eN_ hrd ha (by omega) (fun hin=> ?_) (fun hin=> ?_)
  ·simp only[aK_,ak_];refine aa_ (fun _=> ?_) (fun e=>by simp at e<;>omega);rw[(iZ_ ha).1] at hin;rw[hin] at e0;rw[e0] at h0; exact h0
  ·simp only[aK_,ak_];rw[lD_ ha hin] at e0;dsimp only[Option.isSome_none] at e0;refine aa_ (fun e=>by simp at e) (fun _=> ?_);refine aa_ (fun e=> ?_) (fun e=> ?_)
   ·have hne: ¬ parent=mkS []:=by simpa using e
    have hm:iP_ is parent=match cv_ is parent with | none=>false | some y=>eqI y.kind 2:=by unfold iP_; rw[decide_eq_false hne,Bool.false_or]
    rcases hi3 with⟨rfl,hin3⟩ | ⟨rfl,hin3⟩
    ·obtain⟨hp,hfi⟩:=r8_ ha hin3;rw[hfi] at hm;dsimp only at hm;refine aa_ (fun e=>by simp at e<;>omega) (fun _=> ?_);refine ab_ rfl (ab_ (by simp; omega) ?_);obtain⟨l,o,p,e1,r1,r2,_⟩:=hrd _ hp;rw[e1];simp only[ah_,etn];rw[ag_ r2,ak_];refine aa_ (fun e=> ?_) (fun e=> ?_)
     ·rw[hm,cR_ e] at e0;rw[e0] at h0; exact h0
     rw[hm,c7_ e] at e0;refine aa_ (fun e=> ?_) (fun e=> ?_)
     ·rw[show leI 6 (is.length:Int)=true from e] at e0;rw[e0] at h0; exact h0
     rw[show leI 6 (is.length:Int)=false from e] at e0;refine aa_ (fun _=> ?_) (fun e=>by simp at e<;>omega);rw[←e1];have hfk:=hfl _ (List.getElem_mem hp);exact l17 e0 hp _ 0 100009 H none 0 [] rfl (Nat.zero_le _) (by omega) (List.prefix_refl _) (.inl ⟨rfl,rfl,rfl⟩) (by omega)
    ·rw[lD_ ha hin3] at hm;dsimp only at hm;rw[hm] at e0;refine aa_ (fun _=> ?_) (fun e=>by simp at e);rw[e0] at h0; exact h0
   ·have hpe:parent=mkS []:=by simpa using e
    have hm:iP_ is parent=true:=by unfold iP_; rw[decide_eq_true hpe]; rfl
    rw[hm] at e0;refine aa_ (fun e=> ?_) (fun e=> ?_)
    ·rw[show leI 6 (is.length:Int)=true from e] at e0;rw[e0] at h0; exact h0
    rw[show leI 6 (is.length:Int)=false from e] at e0;have hne:=Ac_ hf;rw[←hpe] at hne;rcases hi3 with⟨_,hin3⟩ | ⟨rfl,_⟩
    ·rw[hne] at hin3; cases hin3
    ·refine aa_ (fun e=>by simp at e) (fun _=> ?_);exact copy e0 (List.prefix_refl _)
 have h0:=hQ H none 0 (List.prefix_refl _);have kindc:(eqI kind 0||eqI kind 1)=false→bm_ name 4=true→(decide (parent=mkS [])||bm_ parent 4)=true→Q (.tup [.s (.sl none 0 5),.s (.int .i64 1905)]) H:=fun k w1 w2=>by
  rw[show ga_ is name parent kind=1905 by unfold ga_; rw[w1,w2,k]] at h0; exact h0
 have named:bm_ name 4=false→Q (.tup [.s (.sl none 0 5),.s (.int .i64 1901)]) H:=fun w1=>by
  rw[show ga_ is name parent kind=1901 by unfold ga_; rw[w1]] at h0; exact h0
 have main:∀ i3:Int,((i3=((dn_ is parent:Nat):Int)∧(is.any fun y=>decide (y.name=parent))=true)∨(i3= -1∧(is.any fun y=>decide (y.name=parent))=false))→True:=fun _ _=>trivial;refine eN_ hrd ha (by omega) (fun hin=> ?_) (fun hin=> ?_)
 all_goals
  simp only[aK_,ak_]
  refine ek_ hrd ha (by omega) hsz ?_
  simp only[aK_,al_]
  rw[hf]
  refine aa_ (fun e=>by cases e) (fun _=> ?_)
  refine bR_ hs1 ?_
  simp only[aK_,al_]
  refine aa_ (fun e=>named (cR_ e)) (fun e=> ?_)
  have w1:=c7_ e
  refine aa_ (fun e=> ?_) (fun e=> ?_)
  ·have hne: ¬ parent=mkS []:=by simpa using e
   refine bR_ hs2 ?_;simp only[aK_,al_];refine aa_ (fun e=> ?_) (fun e=> ?_)
   ·rw[show ga_ is name parent kind=1901 by unfold ga_; rw[w1,decide_eq_false hne,cR_ e]; rfl] at h0; exact h0
   have w2:(decide (parent=mkS [])||bm_ parent 4)=true:=by rw[c7_ e,Bool.or_true]
   refine aa_ (fun e=> ?_) (fun e=> ?_)
   ·refine aa_ (fun e2=>kindc (by rw[cR_ e,cR_ e2]; rfl) w1 w2) (fun e2=> ?_);exact rest _ (by first | exact .inl ⟨rfl,hin⟩ | exact .inr ⟨rfl,hin⟩) w1 w2 (by rw[c7_ e2,Bool.or_true])
   ·exact rest _ (by first | exact .inl ⟨rfl,hin⟩ | exact .inr ⟨rfl,hin⟩) w1 w2 (by rw[c7_ e,Bool.true_or])
  ·have hpe:parent=mkS []:=by simpa using e
   have w2:(decide (parent=mkS [])||bm_ parent 4)=true:=by rw[decide_eq_true hpe]; rfl
   refine aa_ (fun e=> ?_) (fun e=> ?_)
   ·refine aa_ (fun e2=>kindc (by rw[cR_ e,cR_ e2]; rfl) w1 w2) (fun e2=> ?_);exact rest _ (by first | exact .inl ⟨rfl,hin⟩ | exact .inr ⟨rfl,hin⟩) w1 w2 (by rw[c7_ e2,Bool.or_true])
   ·exact rest _ (by first | exact .inl ⟨rfl,hin⟩ | exact .inr ⟨rfl,hin⟩) w1 w2 (by rw[c7_ e,Bool.true_or])
end
end Go.Am
end
section
set_option maxRecDepth 100000
namespace Go.Am
def d7_ (is:List InfoR) (name path content:ByteArray):Int:=match bm_ name 4 with
 | false=>1901
 | true=>match ed_ is name==0 with
  | false=>ed_ is name
  | true=>match bm_ path 3 with
   | false=>1907
   | true=>match leI (sz content) 6 with
    | false=>1909
    | true=>match cv_ is name with
     | none=>0
     | some i=>match i.files.any fun f=>decide (f.1=path) with
      | true=>0
      | false=>match leI 4 (i.files.length:Int) with
       | true=>1910
       | false=>0
def d4_ (is:List InfoR) (name to:ByteArray):Int:=match bm_ name 4&&bm_ to 4 with
 | false=>1901
 | true=>match ed_ is name==0 with
  | false=>ed_ is name
  | true=>match (cv_ is to).isSome with
   | true=>1902
   | false=>0
section
variable {H:Hp} {Q:Post}
theorem pL_ {b:Nat} {a:Pl} {is:List InfoR} {name path content:ByteArray} (h:cg_ H b a is) (ha:gC_ is) (hf:bt_ is is.length 0=true) (hn:is.length≤900)
 (hsz:∀ x∈is,x.name.size≤140737488351232∧x.files.length≤100000∧∀ f∈x.files,f.1.size≤140737488351232) (hs1:name.size≤140737488351232) (hs2:path.size≤140737488351232)
 (hQ:∀ H' a' n',H<+:H'→Q (.tup [.s (.sl a' n' 5),.s (.int .i64 (d7_ is name path content))]) H'):
 aW_ [.g (.sl a is.length 5),.g (.str name),.g (.str path),.g (.str content)] H Q:=by
 refine⟨200010,?_⟩;rw[tr_];have etn:∀ k:Nat,tN (k:Int)=k:=fun _=>rfl;have hrd:=h.rd;have hfl:∀ i∈is,i.files.length≤100000:=fun i hi=>(hsz i hi).2.1;have h0:=hQ H none 0 (List.prefix_refl _);refine ek_ hrd ha (by omega) hsz ?_;simp only[aK_,al_];rw[hf];refine aa_ (fun e=>by cases e) (fun _=> ?_);refine bR_ hs1 ?_;simp only[aK_,al_];refine aa_ (fun e=>by rw[show d7_ is name path content=1901 by unfold d7_; rw[cR_ e]] at h0; exact h0) (fun e=> ?_);have w1:=c7_ e;refine ir_ hrd ha (by omega) (fun e he hA=> ?_) (fun hA hp hfi=> ?_)
 ·simp only[aR_,aG_,bP_,ak_,aS_];refine aa_ (fun _=> ?_) (fun q=>by exact absurd (by simpa using q) he);rw[show d7_ is name path content=e by unfold d7_; rw[w1,hA,show (e==0)=false by simpa using he]] at h0;exact h0
 ·simp only[aR_,aG_,bP_,ak_,aS_];refine aa_ (fun q=>by cases q) (fun _=> ?_);generalize hK:dn_ is name=K at hp hfi;refine ab_ rfl (ab_ (by simp<;>omega) ?_);obtain⟨l,o,p,e1,r1,r2,r3,r4,r5,r6⟩:=hrd _ hp;have hfk:=hfl _ (List.getElem_mem hp);have eW:d7_ is name path content=match bm_ path 3 with
   | false=>1907
   | true=>match leI (sz content) 6 with
    | false=>1909
    | true=>match is[K].files.any fun f=>decide (f.1=path) with
     | true=>0
     | false=>match leI 4 (is[K].files.length:Int) with
      | true=>1910
      | false=>0:=by unfold d7_; rw[w1,hA,hfi]; rfl
  have l29:d7_ is name path content=0→∀ (F:Nat) (G:Hp) (l a:Nat) (cs:List GV) (q:Pl) (m:Nat),H<+:G→H.length≤l→G[l]? =some (.row true 49 cs)→cs.length=is.length*5→aW_.l29 (F+1) ((K:Nat):Int) (some (l,0)) is.length q m G Q:=fun e0 F G l a cs q m hG hl hr hc=>by
   rw[aW_.l29_eq];refine ab_ rfl (ab_ (by simp<;>omega) ?_);simp only[ah_,etn,Nat.zero_add];rw[kV_ hr (by omega)];have:=hQ (G.set l (.row true 49 (cs.set (K*5+4) (.sl q m 3)))) (some (l,0)) is.length (d2_ hG hl _);rw[e0] at this;exact this
  have l22:d7_ is name path content=0→∀ (G0:Hp) (a0:Pl),H<+:G0→cg_ G0 H.length a0 is→∀ (f j F:Nat) (G:Hp) (a':Pl) (n':Nat) (cs:List GV),f=is[K].files.length - j→j≤is[K].files.length→2*f+3≤F→G0<+:G→Own G G0.length 51 a' (n'*3) cs→n'≤j+1→
   aW_.l22 F path ((K:Nat):Int) a0 is.length path content true a' n' ((j:Nat):Int) G Q:=by
   intro e0 G0 a0 p0 hi0 f;obtain⟨l,p,e1,hbl,r1,r2,r3,r4,r5,r6,r7,cs0,hr0,hc0⟩:=hi0.src K hp;induction f with
   | zero=>
    intro j F G a' n' cs hf' hj hF hG ho hn';obtain⟨F,rfl⟩:∃ G,F=G+1+1:=⟨F - 2,by omega⟩;rw[aW_.l22_eq];refine ab_ rfl (ab_ (by simp<;>omega) ?_);rw[e1];have r5':gt G l (K*5+4)=some (.sl p is[K].files.length 3):=dF_ hG r5;simp only[ah_,etn,Nat.zero_add];rw[ag_ r5',as_];refine aa_ (fun e=>by simp at e<;>omega) (fun _=> ?_);refine ab_ rfl (ab_ (by simp<;>omega) ?_);rw[ag_ r5',as_];have hrG:G[l]? =some (.row true 49 cs0):=by rw[cd_ hG (List.getElem?_eq_some_iff.1 hr0).1]; exact hr0
    refine aa_ (fun _=> ?_) (fun _=>l29 e0 F G l 0 cs0 _ _ (p0.trans hG) hbl hrG hc0);refine ab_ rfl ?_;refine i6_ (H0:=G0) (by omega) hG ho (m:=1) rfl (by unfold Lim; omega) fun x' G' o' ex fr=> ?_;exact l29 e0 F G' l 0 cs0 _ _ (p0.trans ex.pre) hbl (by rw[cd_ ex.pre (List.getElem?_eq_some_iff.1 hr0).1]; exact hr0) hc0
   | succ f ih=>
    intro j F G a' n' cs hf' hj hF hG ho hn';have hjl:j < is[K].files.length:=by omega
    obtain⟨F,rfl⟩:∃ G,F=G+1+1:=⟨F - 2,by omega⟩;rw[aW_.l22_eq];refine ab_ rfl (ab_ (by simp<;>omega) ?_);rw[e1];have r5':gt G l (K*5+4)=some (.sl p is[K].files.length 3):=dF_ hG r5;simp only[ah_,etn,Nat.zero_add];rw[ag_ r5',as_];refine aa_ (fun _=> ?_) (fun e=>by simp at e<;>omega);have next:∀ (G:Hp) (a':Pl) (n':Nat) (cs:List GV),G0<+:G→Own G G0.length 51 a' (n'*3) cs→n'≤j+1→aW_.l26 (F+1) path ((K:Nat):Int) (some (l,0)) is.length path content true a' n' ((j:Nat):Int) G Q:=by
     intro G a' n' cs hG ho hn';have r5':gt G l (K*5+4)=some (.sl p is[K].files.length 3):=dF_ hG r5;rw[aW_.l26_eq];refine ab_ rfl (ab_ (by simp<;>omega) ?_);simp only[ah_,etn,Nat.zero_add];rw[ag_ r5',as_];refine ab_ rfl (ab_ (by simp<;>omega) ?_);obtain⟨l2,o2,e2,q1,q2,q3⟩:=(r6.rd.pre hG) _ hjl;rw[e2];simp only[ah_,etn];rw[ag_ q1,aB_,ag_ q2,aB_,ag_ q3,al_];refine ab_ rfl ?_;refine i6_ (H0:=G0) (by omega) hG ho (m:=1) rfl (by unfold Lim; omega) fun x' G' o' ex fr=> ?_;rw[ar_ (by omega),←e1];exact ih (j+1) F G' x' _ _ (by omega) hjl (by omega) ex.pre o' (by omega)
    refine aa_ (fun e=> ?_) (fun _=>next G a' n' cs hG ho hn');have hnj:n'=j:=by simp at e; omega
    refine ab_ rfl (ab_ (by simp<;>omega) ?_);rw[ag_ r5',as_];refine ab_ rfl (ab_ (by simp<;>omega) ?_);obtain⟨l2,o2,e2,q1,q2,q3⟩:=(r6.rd.pre hG) _ hjl;rw[e2];simp only[ah_,etn,Nat.add_zero];rw[ag_ q1,aB_];refine aa_ (fun _=> ?_) (fun _=>next G a' n' cs hG ho hn');refine ab_ rfl ?_;refine i6_ (H0:=G0) (by omega) hG ho (m:=1) rfl (by unfold Lim; omega) fun x' G' o' ex fr=> ?_;exact next G' x' _ _ ex.pre o' (by omega)
  rw[e1];simp only[ah_,etn];have r5':gt H l (o+K*5+4)=some (.sl p is[K].files.length 3):=r5;rw[ag_ r5',as_];have tail:∀ i27:Int,((∃ k:Nat,i27=((k:Nat):Int)∧∃ hk:k < is[K].files.length,is[K].files[k].1=path)∨(i27= -1∧∀ f∈is[K].files,f.1≠path))→
   cl bY_ [(.g (.str path))] H fun r28 H29=>
    rG r28 fun v30=>
    dB v30 fun b31=>
    af_ (!b31)
    (Q (.tup [(.s (.sl none 0 5)),(.s (.int .i64 1907))]) H29)
    (af_ (ltI 6 (sz content))
     (Q (.tup [(.s (.sl none 0 5)),(.s (.int .i64 1909))]) H29)
     (af_ (ltI i27 0)
      (chk true (chk ((leI 0 ((K:Nat):Int))&&(ltI ((K:Nat):Int) (nI is.length))) (
       rd H29 l ((o+(K*5))+4) fun v34=>
       dL 3 v34 fun x35 n36=>
       af_ (leI 4 (nI n36))
       (Q (.tup [(.s (.sl none 0 5)),(.s (.int .i64 1910))]) H29)
       (cl a9_ [(.g (.sl (some (l,o)) is.length 5))] H29 fun r37 H38=>
        rG r37 fun v39=>
        dL 5 v39 fun x40 n41=>
        af_ (leI 0 i27)
        (chk true (chk ((leI 0 ((K:Nat):Int))&&(ltI ((K:Nat):Int) (nI n41))) (pS x40 fun n42 n43=>
         rd H38 n42 ((n43+(K*5))+4) fun v44=>
         dL 3 v44 fun x45 n46=>
         chk true (chk ((leI 0 i27)&&(ltI i27 (nI n46))) (pS x45 fun n47 n48=>
         wr H38 n47 (n48+((tN i27)*3)) (.str path) fun H49=>
         wr H49 n47 ((n48+((tN i27)*3))+1) (.str content) fun H50=>
         wr H50 n47 (((n48+((tN i27)*3))+1)+1) (.bool true) fun H51=>
         Q (.tup [(.s (.sl x40 n41 5)),(.s (.int .i64 0))]) H51)))))
        (aW_.l22 200009 path ((K:Nat):Int) x40 n41 path content true none 0 0 H38 Q)))))
      (cl a9_ [(.g (.sl (some (l,o)) is.length 5))] H29 fun r52 H53=>
       rG r52 fun v54=>
       dL 5 v54 fun x55 n56=>
       af_ (leI 0 i27)
       (chk true (chk ((leI 0 ((K:Nat):Int))&&(ltI ((K:Nat):Int) (nI n56))) (pS x55 fun n57 n58=>
        rd H53 n57 ((n58+(K*5))+4) fun v59=>
        dL 3 v59 fun x60 n61=>
        chk true (chk ((leI 0 i27)&&(ltI i27 (nI n61))) (pS x60 fun n62 n63=>
        wr H53 n62 (n63+((tN i27)*3)) (.str path) fun H64=>
        wr H64 n62 ((n63+((tN i27)*3))+1) (.str content) fun H65=>
        wr H65 n62 (((n63+((tN i27)*3))+1)+1) (.bool true) fun H66=>
        Q (.tup [(.s (.sl x55 n56 5)),(.s (.int .i64 0))]) H66)))))
       (aW_.l22 200009 path ((K:Nat):Int) x55 n56 path content true none 0 0 H53 Q)))):=by
   intro i27 hi27;refine eO_ hs2 ?_;simp only[aK_,al_];refine aa_ (fun e=>by rw[eW,cR_ e] at h0; exact h0) (fun e=> ?_);rw[c7_ e] at eW;dsimp only at eW;refine aa_ (fun e=>by rw[eW,show leI (sz content) 6=false by simp at e ⊢; omega] at h0; exact h0) (fun e=> ?_);rw[show leI (sz content) 6=true by simp at e ⊢; omega] at eW;dsimp only at eW;rcases hi27 with⟨k,rfl,hk,hkp⟩ | ⟨rfl,hno⟩
   ·refine aa_ (fun e=>by simp at e<;>omega) (fun _=> ?_);have e0:d7_ is name path content=0:=by
     rw[eW,show (is[K].files.any fun f=>decide (f.1=path))=true from List.any_eq_true.2 ⟨_,List.getElem_mem hk,by simpa using hkp⟩]
    rw[←e1];refine fX_ h hn hfl fun G a0 pG hi0=> ?_;simp only[aK_,as_];refine aa_ (fun _=> ?_) (fun e=>by simp at e<;>omega);refine ab_ rfl (ab_ (by simp<;>omega) ?_);obtain⟨l9,p9,e9,hbl,_,_,_,_,q5,q6,q7,_⟩:=hi0.src K hp;rw[e9];have q5':gt G l9 (K*5+4)=some (.sl p9 is[K].files.length 3):=q5;simp only[ah_,etn,Nat.zero_add];rw[ag_ q5',as_];refine ab_ rfl (ab_ (by simp<;>omega) ?_);rcases q6 with⟨_,z⟩ | ⟨lf,rfl,hrf⟩
    ·rw[z] at hk; cases hk
    ·obtain⟨hbf,_⟩:=q7 lf 0 rfl;simp only[ah_,etn,Nat.zero_add];have hcl:=ff_ is[K].files;have hlt:=(List.getElem?_eq_some_iff.1 hrf).1;rw[kV_ hrf (by omega)];rw[kV_ (List.getElem?_set_self hlt) (by rw[List.length_set]; omega),List.set_set];rw[kV_ (List.getElem?_set_self hlt) (by rw[List.length_set,List.length_set]; omega),List.set_set];have:=hQ (G.set lf (.row true 51 ((((b2_ is[K].files).set (k*3) (.str path)).set (k*3+1) (.str content)).set (k*3+1+1) (.bool true)))) (some (l9,0)) is.length (d2_ pG hbf _);rw[e0] at this;exact this
   ·refine aa_ (fun _=> ?_) (fun e=>by simp at e);rw[show (is[K].files.any fun f=>decide (f.1=path))=false by rw[List.any_eq_false]; intro f hf; simpa using hno f hf] at eW;dsimp only at eW;refine ab_ rfl (ab_ (by simp<;>omega) ?_);rw[ag_ r5',as_];refine aa_ (fun e=>by rw[eW,show leI 4 (is[K].files.length:Int)=true from e] at h0; exact h0) (fun e=> ?_);rw[show leI 4 (is[K].files.length:Int)=false from e] at eW;rw[←e1];refine fX_ h hn hfl fun G a0 pG hi0=> ?_;simp only[aK_,as_];refine aa_ (fun e=>by simp at e) (fun _=> ?_);exact l22 eW G a0 pG hi0 _ 0 200009 G none 0 [] rfl (Nat.zero_le _) (by omega) (List.prefix_refl _) (.inl ⟨rfl,rfl,rfl⟩) (by omega)
  refine oF_ r6 hfk (fun k hk e=> ?_) (fun hno=> ?_)
  ·simp only[aK_,ak_];exact tail _ (.inl ⟨k,rfl,hk,e⟩)
  ·simp only[aK_,ak_];exact tail _ (.inr ⟨rfl,hno⟩)
theorem oC_ {b:Nat} {a:Pl} {is:List InfoR} {name to:ByteArray} (h:cg_ H b a is) (ha:gC_ is) (hf:bt_ is is.length 0=true) (hn:is.length≤900)
 (hsz:∀ x∈is,x.name.size≤140737488351232∧x.files.length≤100000∧∀ f∈x.files,f.1.size≤140737488351232) (hs1:name.size≤140737488351232) (hs2:to.size≤140737488351232)
 (hQ:∀ H' a' n',H<+:H'→Q (.tup [.s (.sl a' n' 5),.s (.int .i64 (d4_ is name to))]) H'):
 en_ [.g (.sl a is.length 5),.g (.str name),.g (.str to)] H Q:=by
 refine⟨1,?_⟩;rw[q3_];have etn:∀ k:Nat,tN (k:Int)=k:=fun _=>rfl;have hrd:=h.rd;have hfl:∀ i∈is,i.files.length≤100000:=fun i hi=>(hsz i hi).2.1;have h0:=hQ H none 0 (List.prefix_refl _);refine ek_ hrd ha (by omega) hsz ?_;simp only[aK_,al_];rw[hf];refine aa_ (fun e=>by cases e) (fun _=> ?_);refine bR_ hs1 ?_;simp only[aK_,al_];refine aa_ (fun e=>by rw[show d4_ is name to=1901 by unfold d4_; rw[cR_ e,Bool.false_and]] at h0; exact h0) (fun e=> ?_);have w1:=c7_ e;refine bR_ hs2 ?_;simp only[aK_,al_];refine aa_ (fun e=>by rw[show d4_ is name to=1901 by unfold d4_; rw[cR_ e,Bool.and_false]] at h0; exact h0) (fun e=> ?_);have w2:=c7_ e;refine ir_ hrd ha (by omega) (fun e he hA=> ?_) (fun hA hp hfi=> ?_)
 ·simp only[aR_,aG_,bP_,ak_,aS_];refine aa_ (fun _=> ?_) (fun q=>by exact absurd (by simpa using q) he);rw[show d4_ is name to=e by unfold d4_; rw[w1,w2,hA,show (e==0)=false by simpa using he]; rfl] at h0;exact h0
 ·simp only[aR_,aG_,bP_,ak_,aS_];refine aa_ (fun q=>by cases q) (fun _=> ?_);have eC:d4_ is name to=match (cv_ is to).isSome with | true=>1902 | false=>0:=by unfold d4_; rw[w1,w2,hA]; rfl
  refine eN_ hrd ha (by omega) (fun hin=> ?_) (fun hin=> ?_)
  ·simp only[aK_,ak_];refine aa_ (fun _=> ?_) (fun e=>by simp at e<;>omega);rw[(iZ_ ha).1] at hin;rw[eC,hin] at h0; exact h0
  ·simp only[aK_,ak_];refine aa_ (fun e=>by simp at e) (fun _=> ?_);rw[lD_ ha hin] at eC;dsimp only[Option.isSome_none] at eC;refine fX_ h hn hfl fun G a0 pG hi0=> ?_;simp only[aK_,as_];refine ab_ rfl (ab_ (by simp<;>omega) ?_);obtain⟨l,o,p,e1,r1,r2,r3,r4,r5,r6⟩:=hi0.rd _ hp;rw[e1];simp only[ah_,etn];rw[ag_ r1,aB_,ag_ r2,ak_,ag_ r3,aB_,ag_ r4,aB_,ag_ r5,as_,←e1];refine ns_ hi0.rd hn fun G1 a1 pG1 hr1=> ?_;simp only[aK_,as_];refine j9_ hr1 (Nat.le_trans (List.length_eraseIdx_le _ _) hn) fun G2 a2 n2 pG2=> ?_;simp only[aK_,as_];have:=hQ G2 a2 n2 (pG.trans (pG1.trans pG2));rw[eC] at this;exact this
end
end Go.Am
end
namespace Go.Am
inductive fq_ (is:List InfoR):ByteArray→Prop
 | nil:fq_ is (mkS [])
 | step {y:InfoR}:y∈is→y.kind=2→fq_ is y.parent→fq_ is y.name
theorem fq_.mono {is js:List InfoR} (h:∀ y∈is,y.kind=2→∃ z∈js,z.name=y.name∧z.kind=2∧z.parent=y.parent) {p:ByteArray} (r:fq_ is p):fq_ js p:=by
 induction r with
 | nil=>exact .nil
 | @step y hy hk _ ih=>
  obtain⟨z,hz,e1,e2,e3⟩:=h y hy hk;rw[←e1];exact .step hz e2 (by rw[e3]; exact ih)
theorem sp_ {is:List InfoR} (ha:gC_ is):∀ (f:Nat) (p:ByteArray),hF_ is f p=true→fq_ is p
 | 0,p,h=>by
  rw[hF_] at h;have:p=mkS []:=by simpa using h
  rw[this]; exact .nil
 | f+1,p,h=>by
  rw[hF_] at h;by_cases e:p=mkS []
  ·rw[e]; exact .nil
  ·rw[if_neg e,Bool.and_eq_true] at h;obtain⟨hp,hnm⟩:=k3_ ha h.1;have h2:=h.2;rw[List.getElem?_eq_getElem hp] at h2;dsimp only at h2;rw[Bool.and_eq_true] at h2;rw[←hnm];exact .step (List.getElem_mem hp) (by simpa using h2.1) (sp_ ha f _ h2.2)
theorem xX_ {is:List InfoR} (ha:gC_ is) {p:ByteArray} (r:fq_ is p):∃ f,hF_ is f p=true:=by
 induction r with
 | nil=>exact⟨0,by rw[hF_]; simp⟩
 | @step y hy hk _ ih=>
  obtain⟨f,hf⟩:=ih;refine⟨f+1,?_⟩;rw[hF_];by_cases e:y.name=mkS []
  ·rw[if_pos e]
  ·rw[if_neg e,Bool.and_eq_true];obtain⟨k,hk',rfl⟩:=List.getElem_of_mem hy;have hp:=rI_ ha hk';refine⟨List.any_eq_true.2 ⟨_,List.getElem_mem hk',by simp⟩,?_⟩;rw[hp,List.getElem?_eq_getElem hk'];dsimp only;rw[Bool.and_eq_true];exact⟨by simpa using hk,hf⟩
structure D1_ (is:List InfoR):Prop where
 ok:∀ i∈is,cD_ i=true
 root:∀ i∈is,fq_ is i.parent
 few:is.length≤6
theorem sm_ {is:List InfoR} (ha:gC_ is):∀ (f k:Nat),f=is.length - k→k≤is.length→(∀ i∈is,cD_ i=true)→fG_ is is.length 0=true→bt_ is f k=true
 | 0,k,hf,hk,_,h=>h
 | f+1,k,hf,hk,ho,h=>by
  have hkl:k < is.length:=by omega
  rw[bt_,List.getElem?_eq_getElem hkl];dsimp only;rw[ho _ (List.getElem_mem hkl),sm_ ha f (k+1) (by omega) hkl ho h,Bool.true_and,Bool.and_true];cases k with
  | zero=>rfl
  | succ j=>
   dsimp only;rw[List.getElem?_eq_getElem (show j < is.length by omega)];exact (List.pairwise_iff_getElem.1 ha) _ _ (by omega) hkl (Nat.lt_succ_self _)
theorem xf_ {is:List InfoR} (ha:gC_ is):bt_ is is.length 0=true↔D1_ is:=by
 constructor
 ·intro h;obtain⟨r1,r2⟩:=(hW_ (is:=is) _ 0 rfl (Nat.zero_le _)).1 (iu_ _ _ h);have h6:is.length≤6:=by simp at r2; omega
  refine⟨wO_ h,fun i hi=> ?_,h6⟩;obtain⟨k,hk,rfl⟩:=List.getElem_of_mem hi;have:=mM_ (show is.length≤7+1 by omega) (r1 k (Nat.zero_le _) hk);rw[lK_ 7 k hk] at this;exact sp_ ha 7 _ this
 ·intro h;refine sm_ ha _ 0 rfl (Nat.zero_le _) h.ok ((hW_ (is:=is) _ 0 rfl (Nat.zero_le _)).2 ⟨fun j _ hj=> ?_,by simp; have:=h.few; omega⟩);obtain⟨f,hf⟩:=xX_ ha (h.root _ (List.getElem_mem hj));rw[←lK_ f j hj] at hf;exact st_ _ _ hf
theorem sw_ {cl:Bool} {fs:List FileR} (ha:jF_ fs) (ho:∀ f∈fs,du_ cl f=true) (hl:fs.length≤4):∀ (f k:Nat),f=fs.length - k→k≤fs.length→ci_ cl fs f k=true
 | 0,k,hf,hk=>by rw[ci_]; simp; omega
 | f+1,k,hf,hk=>by
  have hkl:k < fs.length:=by omega
  rw[ci_,List.getElem?_eq_getElem hkl];dsimp only;rw[ho _ (List.getElem_mem hkl),sw_ ha ho hl f (k+1) (by omega) hkl,Bool.true_and,Bool.and_true];cases k with
  | zero=>rfl
  | succ j=>
   dsimp only;rw[List.getElem?_eq_getElem (show j < fs.length by omega)];exact (List.pairwise_iff_getElem.1 ha) _ _ (by omega) hkl (Nat.lt_succ_self _)
theorem r0_ {cl:Bool} {fs:List FileR}:∀ (f k:Nat),f=fs.length - k→ci_ cl fs f k=true→∀ j (hj:j < fs.length),k≤j→du_ cl fs[j]=true
 | 0,k,hf,h=>fun j hj hkj=>by omega
 | f+1,k,hf,h=>fun j hj hkj=>by
  have hk:k < fs.length:=by omega
  rw[ci_,List.getElem?_eq_getElem hk] at h;dsimp only at h;simp only[Bool.and_eq_true] at h;rcases Nat.lt_or_eq_of_le hkj with q | q
  ·exact r0_ f (k+1) (by omega) h.2.2 j hj q
  ·subst q; exact h.1
theorem eQ_ {i:InfoR} (ha:jF_ i.files):cD_ i=true↔bm_ i.name 4=true∧(0≤i.kind∧i.kind≤2)∧i.label.size≤3∧(∀ f∈i.files,du_ (eqI i.kind 1) f=true)∧i.files.length≤4:=by
 unfold cD_;simp only[Bool.and_eq_true];constructor
 ·rintro⟨h1,⟨h2,h3⟩,h4,h5⟩;refine⟨h1,⟨by simpa using h2,by simpa using h3⟩,by simp at h4; omega,fun f hf=> ?_,by have:=pi_ _ _ h5; simp at this; omega⟩;obtain⟨j,hj,rfl⟩:=List.getElem_of_mem hf;exact r0_ _ 0 rfl h5 j hj (Nat.zero_le _)
 ·rintro⟨h1,⟨h2,h3⟩,h4,h5,h6⟩;exact⟨h1,⟨by simpa using h2,by simpa using h3⟩,by simp; omega,sw_ ha h5 h6 _ 0 rfl (Nat.zero_le _)⟩
structure dD_ (st:StD):Prop where
 sto:Sto st
 ids:(st.snaps.map fun x=>x.2.id).Nodup
 few:st.snaps.length≤6
 info:∀ x∈st.snaps,∀ fs,ch_ st x.2.id fs→cD_ ⟨x.1,x.2.kind,x.2.parent,x.2.label,fs⟩=true
 root:∀ is,cn_ st is→∀ i∈is,fq_ is i.parent
theorem cn_.asc' {st:StD} {is:List InfoR} (h:cn_ st is):gC_ is:=by
 have:=h.asc;rw[List.pairwise_map] at this;exact this
theorem cn_.get {st:StD} {is:List InfoR} (h:cn_ st is) {i:InfoR} (hi:i∈is):∃ x∈st.snaps,i=⟨x.1,x.2.kind,x.2.parent,x.2.label,i.files⟩∧ch_ st x.2.id i.files:=by
 obtain⟨x,h1,h2,h3,h4,h5⟩:=(h.info i hi).mem;refine⟨(i.name,x),dl_ h1,?_,h5⟩;cases i;dsimp only at*;rw[h2,h3,h4]
theorem cn_.put {st:StD} {is:List InfoR} (hn:(st.snaps.map (·.1)).Nodup) (h:cn_ st is) {x:ByteArray × SnapR} (hx:x∈st.snaps):∃ i∈is,i=⟨x.1,x.2.kind,x.2.parent,x.2.label,i.files⟩∧ch_ st x.2.id i.files:=by
 have:x.1∈is.map (·.name):=h.perm.mem_iff.2 (List.mem_map.2 ⟨x,hx,rfl⟩);obtain⟨i,hi,e⟩:=List.mem_map.1 this;obtain⟨y,h1,h2,h3,h4,h5⟩:=(h.info i hi).mem;rw[e,gv_ hn hx] at h1;cases h1;refine⟨i,hi,?_,h5⟩;cases i;dsimp only at*;rw[e,h2,h3,h4]
theorem dD_.forest {st:StD} (g:dD_ st) {is:List InfoR} (h:cn_ st is):bt_ is is.length 0=true:=by
 refine (xf_ h.asc').2 ⟨fun i hi=> ?_,g.root is h,?_⟩
 ·obtain⟨x,hx,e,hf⟩:=h.get hi;rw[e]; exact g.info x hx _ hf
 ·have:=h.perm.length_eq;rw[List.length_map,List.length_map] at this;have:=g.few; omega
theorem Sto.of {ps:KV} {st:StD} (ha:Asc ps) (h:dA_ ps=some st) (hl:cW_ st=true):Sto st:=by
 have hs:=fy_ ha h;refine⟨hV_ h,⟨qM_ hs,?_,?_⟩,hl⟩
 ·unfold List.Nodup;rw[List.pairwise_map];exact hs.links.imp fun r=>r.1
 ·unfold List.Nodup;rw[List.pairwise_map];exact hs.inos.imp fun r e=>by omega
theorem zS_ {st:StD} (h:hN_ st=true):cW_ st=true∧(st.snaps.map fun x=>x.2.id).Nodup∧bt_ (aA_ st) (aA_ st).length 0=true:=by
 unfold hN_ at h;simp only[Bool.and_eq_true,decide_eq_true_eq] at h;exact⟨h.1,h.2.1,h.2.2⟩
theorem dD_.of {ps:KV} {st:StD} (ha:Asc ps) (h:dx_ ps=some st):dD_ st:=by
 obtain⟨hd,hk⟩:=ix_.1 h;obtain⟨h1,h2,h3⟩:=zS_ hk;have hs:=fy_ ha hd;have hof:=gP_ hs;have hp:=(xf_ hof.asc').1 h3;have sto:=Sto.of ha hd h1;refine⟨sto,h2,?_,fun x hx fs hf=> ?_,fun is his i hi=> ?_⟩
 ·have:=hp.few;unfold aA_ at this;rw[List.length_map] at this; exact this
 ·obtain⟨i,hi,e,hf'⟩:=hof.put sto.nd.snaps hx;have:=hp.ok i hi;rw[e,hf'.unique hf] at this;exact this
 ·have:=his.unique hof;subst this;exact hp.root i hi
theorem ch_.nodup {st:StD} {id:Int} {fs:List FileR} (h:ch_ st id fs):fs.Nodup:=h.asc.imp fun r e=>by rw[e,c4_] at r; cases r
theorem xp_ {st:StD} (h:Sto st) {id:Int} {fs:List FileR} (hf:ch_ st id fs):fs.length=st.links.countP fun l=>decide (l.1.1=id):=by
 have e:(st.links.filter fun l=>decide (l.1.1=id)).map (·.1.2) |>.Nodup:=by
  have:((st.links.filter fun l=>decide (l.1.1=id)).map (·.1)).Nodup:=lm_ h.nd.links _;unfold List.Nodup at this ⊢;rw[List.pairwise_map] at this ⊢;refine this.imp_of_mem fun {a b} ha hb hab q=>hab ?_;have h1:=(List.mem_filter.1 ha).2;have h2:=(List.mem_filter.1 hb).2;exact Prod.ext (by simp at h1 h2; omega) q
 have hn:(fs.map (·.1)).Nodup:=by
  unfold List.Nodup;rw[List.pairwise_map];exact hf.asc.imp fun r q=>by rw[q,c4_] at r; cases r
 have hm:∀ s,s∈fs.map (·.1)↔s∈(st.links.filter fun l=>decide (l.1.1=id)).map (·.1.2):=fun s=>by
  rw[List.mem_map,List.mem_map];constructor
  ·rintro⟨f,hf',e⟩;obtain⟨l,hl,h1,h2⟩:=(hf.mem f).1 hf';exact⟨l,List.mem_filter.2 ⟨hl,by simpa using h1⟩,by rw[←e,h2]; rfl⟩
  ·rintro⟨l,hl,e⟩;obtain⟨h1,h2⟩:=List.mem_filter.1 hl;exact⟨bs_ st l,(hf.mem _).2 ⟨l,h1,by simpa using h2,rfl⟩,e⟩
 have h1:=(dE_ _ _ hn fun s hs=>(hm s).1 hs).1;have h2:=(dE_ _ _ e fun s hs=>(hm s).2 hs).1;rw[List.length_map,List.length_map] at h1 h2;rw[List.countP_eq_length_filter]; omega
theorem wb_ {st:StD} (h:Sto st) (id:Int):∃ fs,ch_ st id fs:=by
 have key:∀ ls:List (LKey × LVal),(∀ l∈ls,l.1.1=id)→(ls.map (·.1)).Nodup→∃ fs,jF_ fs∧∀ f,f∈fs↔∃ l∈ls,f=bs_ st l:=by
  intro ls;induction ls with
  | nil=>exact fun _ _=>⟨[],List.Pairwise.nil,fun f=>by simp⟩
  | cons l ls ih=>
   intro h1 h2;rw[List.map_cons,List.nodup_cons] at h2;obtain⟨fs,ha,hm⟩:=ih (fun l hl=>h1 l (by simp [hl])) h2.2;have hnew:∀ x∈fs,x.1≠(bs_ st l).1:=fun x hx e=>by
    obtain⟨l',hl',rfl⟩:=(hm x).1 hx;apply h2.1;refine List.mem_map.2 ⟨l',hl',Prod.ext ?_ e⟩;rw[h1 l' (by simp [hl']),h1 l (by simp)]
   refine⟨_,ha.put (bs_ st l) hnew,fun f=> ?_⟩;rw[List.mem_append,List.mem_cons];have ht:f∈fs↔f∈fs.take (gh_ fs (bs_ st l).1)∨f∈fs.drop (gh_ fs (bs_ st l).1):=by
    rw[←List.mem_append,List.take_append_drop]
   constructor
   ·rintro (q | q | q)
    ·obtain⟨l',hl',e⟩:=(hm f).1 (ht.2 (.inl q)); exact⟨l',by simp [hl'],e⟩
    ·exact⟨l,by simp,q⟩
    ·obtain⟨l',hl',e⟩:=(hm f).1 (ht.2 (.inr q)); exact⟨l',by simp [hl'],e⟩
   ·rintro⟨l',hl',e⟩;rcases List.mem_cons.1 hl' with q | q
    ·subst q; exact .inr (.inl e)
    ·rcases ht.1 ((hm f).2 ⟨l',q,e⟩) with z | z
     ·exact .inl z
     ·exact .inr (.inr z)
 obtain⟨fs,ha,hm⟩:=key (st.links.filter fun l=>decide (l.1.1=id)) (fun l hl=>by simpa using (List.mem_filter.1 hl).2) (lm_ h.nd.links _);refine⟨fs,ha,fun f=> ?_⟩;rw[hm];constructor
 ·rintro⟨l,hl,e⟩;obtain⟨h1,h2⟩:=List.mem_filter.1 hl;exact⟨l,h1,by simpa using h2,e⟩
 ·rintro⟨l,h1,h2,e⟩;exact⟨l,List.mem_filter.2 ⟨h1,by simpa using h2⟩,e⟩
end Go.Am
namespace Go.Am
theorem qm_:∀ {es ps:KV},Asc ps→((ps++es).map (·.1)).Nodup→(d0_ ps es).Perm (ps++es)∧Asc (d0_ ps es)
 | [],ps,ha,_=>by rw[List.append_nil]; exact⟨List.Perm.refl _,ha⟩
 | e::es,ps,ha,hn=>by
  have hnk:∀ x∈ps,x.1≠e.1:=fun x hx q=>by
   rw[List.map_append,List.nodup_append] at hn;exact hn.2.2 x.1 (List.mem_map.2 ⟨x,hx,rfl⟩) e.1 (by simp) q
  obtain⟨L,M,R,e1,e2,hM,_,_⟩:=jy_ e.1 e.2 ha;have hM0:M=[]:=by
   rcases hM with q | ⟨v0,q⟩
   ·exact q
   ·exact absurd rfl (hnk (e.1,v0) (by rw[e1,q]; simp))
  subst hM0;rw[List.append_nil] at e1;have hp:(fT_ ps e.1 e.2).Perm (ps++[e]):=by
   rw[e2,e1];have:(L++e::R).Perm (L++(R++[e])):=List.Perm.append_left L (List.perm_append_comm (l₁:=[e]) (l₂:=R));rw[←List.append_assoc] at this;exact this
  have hp2:(fT_ ps e.1 e.2++es).Perm (ps++e::es):=by
   have:=List.Perm.append_right es hp;rw[List.append_assoc] at this;exact this
  have hn2:((fT_ ps e.1 e.2++es).map (·.1)).Nodup:=(List.Perm.map _ hp2).nodup_iff.2 hn;obtain⟨q1,q2⟩:=qm_ (es:=es) (xe_ ha e.1 e.2) hn2;exact⟨q1.trans hp2,q2⟩
theorem Ds_ {x:ByteArray × SnapR} (h1:bm_ x.1 4=true) (h2:eR_ x.2=true):snE (hZ_ x)=some x∧lnE (hZ_ x)=none∧inE (hZ_ x)=none:=by
 have e:=tC_ h1;obtain⟨a1,a2⟩:=nw_ e;refine⟨?_,?_,?_⟩
 ·unfold snE hZ_; dsimp only; rw[e,wg_ h2]; rfl
 ·unfold lnE hZ_; dsimp only; rw[a1]
 ·unfold inE hZ_; dsimp only; rw[a2]
theorem Dw_ {x:LKey × LVal} (h1:1≤x.1.1) (h2:x.1.1≤255) (h3:bm_ x.1.2 3=true) (h4:0≤x.2.1) (h5:x.2.1≤255):snE (kh_ x)=none∧lnE (kh_ x)=some x∧inE (kh_ x)=none:=by
 have e:=tc_ h1 h2 h3;obtain⟨a1,a2⟩:=js_ e;refine⟨?_,?_,?_⟩
 ·unfold snE kh_; dsimp only; rw[a1]
 ·unfold lnE kh_; dsimp only; rw[e,yd_ h4 h5]; rfl
 ·unfold inE kh_; dsimp only; rw[a2]
theorem DO_ {x:Int × InoR} (h1:1≤x.1) (h2:x.1≤255) (h3:d8_ x.2=true):snE (q1_ x)=none∧lnE (q1_ x)=none∧inE (q1_ x)=some x:=by
 have e:=uq_ h1 h2;obtain⟨a1,a2⟩:=pZ_ e;refine⟨?_,?_,?_⟩
 ·unfold snE q1_; dsimp only; rw[a1]
 ·unfold lnE q1_; dsimp only; rw[a2]
 ·unfold inE q1_; dsimp only; rw[e,yb_ h3]; rfl
theorem rF_ {α β γ:Type} {f:α→β} {g:β→Option α}:∀ {l:List α},(∀ x∈l,g (f x)=some x)→(l.map f).filterMap g=l
 | [],_=>rfl
 | x::l,h=>by rw[List.map_cons,List.filterMap_cons,h x (by simp)]; dsimp only; rw[rF_ (γ:=γ) fun y hy=>h y (by simp [hy])]
theorem jK_ {α β γ:Type} {f:α→β} {g:β→Option γ}:∀ {l:List α},(∀ x∈l,g (f x)=none)→(l.map f).filterMap g=[]
 | [],_=>rfl
 | x::l,h=>by rw[List.map_cons,List.filterMap_cons,h x (by simp)]; dsimp only; exact jK_ fun y hy=>h y (by simp [hy])
theorem CS_ {st:StD} (ok:xD_ st):(uU_ st).filterMap snE=st.snaps∧(uU_ st).filterMap lnE=st.links∧(uU_ st).filterMap inE=st.inos∧(uU_ st).all okE=true:=by
 have hS:∀ x∈st.snaps,_:=fun x hx=>Ds_ (ok.snaps x hx).1 (ok.snaps x hx).2;have hL:∀ x∈st.links,_:=fun x hx=>Dw_ (ok.links x hx).1.1 (ok.links x hx).1.2 (ok.links x hx).2.1 (ok.links x hx).2.2.1 (ok.links x hx).2.2.2;have hI:∀ x∈st.inos,_:=fun x hx=>DO_ (ok.inos x hx).1.1 (ok.inos x hx).1.2 (ok.inos x hx).2;unfold uU_;refine⟨?_,?_,?_,?_⟩
 ·rw[List.filterMap_append,List.filterMap_append,rF_ (γ:=Nat) fun x hx=>(hS x hx).1,jK_ fun x hx=>(hL x hx).1,jK_ fun x hx=>(hI x hx).1]; simp
 ·rw[List.filterMap_append,List.filterMap_append,jK_ fun x hx=>(hS x hx).2.1,rF_ (γ:=Nat) fun x hx=>(hL x hx).2.1,jK_ fun x hx=>(hI x hx).2.1]; simp
 ·rw[List.filterMap_append,List.filterMap_append,jK_ fun x hx=>(hS x hx).2.2,jK_ fun x hx=>(hL x hx).2.2,rF_ (γ:=Nat) fun x hx=>(hI x hx).2.2]; simp
 ·rw[List.all_eq_true];intro p hp;unfold okE;rcases List.mem_append.1 hp with q | q
  ·obtain⟨x,hx,rfl⟩:=List.mem_map.1 q; rw[(hS x hx).1]; rfl
  ·rcases List.mem_append.1 q with q | q
   ·obtain⟨x,hx,rfl⟩:=List.mem_map.1 q; rw[(hL x hx).2.1]; simp
   ·obtain⟨x,hx,rfl⟩:=List.mem_map.1 q; rw[(hI x hx).2.2]; simp
theorem zo_ {st:StD} (ok:xD_ st) (nd:vD_ st):((uU_ st).map (·.1)).Nodup:=by
 unfold uU_;rw[List.map_append,List.map_append,List.map_map,List.map_map,List.map_map];have inj:∀ {α β:Type} {l:List (α × β)} {f:α→ByteArray} {g:ByteArray→Option α},(∀ x∈l,g (f x.1)=some x.1)→(l.map (·.1)).Nodup→(l.map (fun x=>f x.1)).Nodup:=fun {α β l f g} h hn=>by
  unfold List.Nodup at hn ⊢;rw[List.pairwise_map] at hn ⊢;refine hn.imp_of_mem fun {a b} ha hb hab e=>hab ?_;have h1:=h a ha;rw[e,h b hb] at h1;exact (Option.some.inj h1).symm
 have kS:∀ x∈st.snaps,bZ_ (rd_ x.1)=some x.1:=fun x hx=>tC_ (ok.snaps x hx).1;have kL:∀ x∈st.links,bM_ (oE_ x.1)=some x.1:=fun x hx=>tc_ (ok.links x hx).1.1 (ok.links x hx).1.2 (ok.links x hx).2.1;have kI:∀ x∈st.inos,ct_ (tD_ x.1)=some x.1:=fun x hx=>uq_ (ok.inos x hx).1.1 (ok.inos x hx).1.2;rw[List.nodup_append,List.nodup_append];refine⟨inj (f:=rd_) kS nd.snaps,⟨inj (f:=oE_) kL nd.links,inj (f:=tD_) kI nd.inos,fun a ha b hb e=> ?_⟩,fun a ha b hb e=> ?_⟩
 ·obtain⟨x,hx,rfl⟩:=List.mem_map.1 ha;obtain⟨y,hy,rfl⟩:=List.mem_map.1 hb;have e':oE_ x.1=tD_ y.1:=e;have h1:=kL x hx;rw[e',(pZ_ (kI y hy)).2] at h1; cases h1
 ·obtain⟨x,hx,rfl⟩:=List.mem_map.1 ha;rcases List.mem_append.1 hb with q | q
  ·obtain⟨y,hy,rfl⟩:=List.mem_map.1 q;have e':rd_ x.1=oE_ y.1:=e;have h1:=kS x hx;rw[e',(js_ (kL y hy)).1] at h1; cases h1
  ·obtain⟨y,hy,rfl⟩:=List.mem_map.1 q;have e':rd_ x.1=tD_ y.1:=e;have h1:=kS x hx;rw[e',(pZ_ (kI y hy)).1] at h1; cases h1
structure hK_ (st st':StD):Prop where
 snaps:st'.snaps.Perm st.snaps
 links:st'.links.Perm st.links
 inos:st'.inos.Perm st.inos
theorem wF_ {st:StD} (ok:xD_ st) (nd:vD_ st):∃ st',dA_ (fu_ st)=some st'∧hK_ st st'∧Asc (fu_ st):=by
 obtain⟨hp,ha⟩:=qm_ (es:=uU_ st) (ps:=[]) List.Pairwise.nil (by simpa using zo_ ok nd);rw[List.nil_append] at hp;obtain⟨e1,e2,e3,e4⟩:=CS_ ok;refine⟨⟨(fu_ st).filterMap snE,(fu_ st).filterMap lnE,(fu_ st).filterMap inE⟩,?_,⟨?_,?_,?_⟩,ha⟩
 ·rw[nk_,if_pos];rw[List.all_eq_true] at e4 ⊢;exact fun p hp'=>e4 p (hp.mem_iff.1 hp')
 ·have:=hp.filterMap snE; rw[e1] at this; exact this
 ·have:=hp.filterMap lnE; rw[e2] at this; exact this
 ·have:=hp.filterMap inE; rw[e3] at this; exact this
theorem hK_.cnt {st st':StD} (h:hK_ st st') (i:Int):eD_ st' i=eD_ st i:=h.links.countP_eq _
theorem hK_.linked {st st':StD} (h:hK_ st st') (hl:cW_ st=true):cW_ st'=true:=by
 obtain⟨h1,h2⟩:=dv_.1 hl;refine dv_.2 ⟨fun l hl=> ?_,fun x hx=> ?_⟩
 ·obtain⟨y,hy⟩:=h1 l (h.links.mem_iff.1 hl);exact⟨y,h.inos.mem_iff.2 hy⟩
 ·rw[h.cnt]; exact h2 x (h.inos.mem_iff.1 hx)
theorem hK_.nd {st st':StD} (h:hK_ st st') (nd:vD_ st):vD_ st':=⟨(h.snaps.map _).nodup_iff.2 nd.snaps,(h.links.map _).nodup_iff.2 nd.links,(h.inos.map _).nodup_iff.2 nd.inos⟩
theorem hK_.file {st st':StD} (h:hK_ st st') (nd:vD_ st) (l:LKey × LVal):bs_ st' l=bs_ st l:=by
 unfold bs_;have:look st'.inos l.2.1=look st.inos l.2.1:=by
  cases e:look st.inos l.2.1 with
  | some y=>exact (df_ (h.nd nd).inos).2 (h.inos.mem_iff.2 ((df_ nd.inos).1 e))
  | none=>
   cases e':look st'.inos l.2.1 with
   | none=>rfl
   | some y=>
    have:=(df_ nd.inos).2 (h.inos.mem_iff.1 ((df_ (h.nd nd).inos).1 e'));rw[e] at this; cases this
 rw[this]
theorem hK_.files {st st':StD} (h:hK_ st st') (nd:vD_ st) {id:Int} {fs:List FileR}:ch_ st' id fs↔ch_ st id fs:=by
 have key:∀ f,(∃ l∈st'.links,l.1.1=id∧f=bs_ st' l)↔∃ l∈st.links,l.1.1=id∧f=bs_ st l:=fun f=>by
  constructor
  ·rintro⟨l,h1,h2,h3⟩; exact⟨l,h.links.mem_iff.1 h1,h2,by rw[h3,h.file nd]⟩
  ·rintro⟨l,h1,h2,h3⟩; exact⟨l,h.links.mem_iff.2 h1,h2,by rw[h3,h.file nd]⟩
 exact⟨fun g=>⟨g.asc,fun f=>(g.mem f).trans (key f)⟩,fun g=>⟨g.asc,fun f=>(g.mem f).trans (key f).symm⟩⟩
theorem hK_.look {st st':StD} (h:hK_ st st') (nd:vD_ st) (s:ByteArray):look st'.snaps s=look st.snaps s:=by
 cases e:Go.Am.look st.snaps s with
 | some y=>exact (df_ (h.nd nd).snaps).2 (h.snaps.mem_iff.2 ((df_ nd.snaps).1 e))
 | none=>
  cases e':Go.Am.look st'.snaps s with
  | none=>rfl
  | some y=>
   have:=(df_ nd.snaps).2 (h.snaps.mem_iff.1 ((df_ (h.nd nd).snaps).1 e'));rw[e] at this; cases this
theorem hK_.infos {st st':StD} (h:hK_ st st') (nd:vD_ st) {is:List InfoR}:cn_ st' is↔cn_ st is:=by
 have hm:=h.snaps.map (·.1);have key:∀ i,o2_ st' i↔o2_ st i:=fun i=>by
  constructor
  ·rintro⟨x,h1,h2,h3,h4,h5⟩;exact⟨x,by rw[←h.look nd]; exact h1,h2,h3,h4,(h.files nd).1 h5⟩
  ·rintro⟨x,h1,h2,h3,h4,h5⟩;exact⟨x,by rw[h.look nd]; exact h1,h2,h3,h4,(h.files nd).2 h5⟩
 exact⟨fun g=>⟨g.perm.trans hm,g.asc,fun i hi=>(key i).1 (g.info i hi)⟩,fun g=>⟨g.perm.trans hm.symm,g.asc,fun i hi=>(key i).2 (g.info i hi)⟩⟩
theorem zF_ {st:StD} (g:dD_ st):∃ st',dx_ (fu_ st)=some st'∧hK_ st st'∧cn_ st (aA_ st')∧Asc (fu_ st):=by
 obtain⟨st',hd,hs,ha⟩:=wF_ g.sto.ok g.sto.nd;have hof:=gP_ (fy_ ha hd);have hof':=(hs.infos g.sto.nd).1 hof;refine⟨st',ix_.2 ⟨hd,?_⟩,hs,hof',ha⟩;unfold hN_;rw[hs.linked g.sto.lk,g.forest hof',decide_eq_true ((hs.snaps.map _).nodup_iff.2 g.ids)];rfl
theorem k9_.files {st st':StD} (g:k9_ st st') {x:ByteArray × SnapR} (hx:x∈st.snaps) {fs:List FileR}:ch_ st' x.2.id fs↔ch_ st x.2.id fs:=by
 have key:∀ f,(∃ l∈st'.links,l.1.1=x.2.id∧f=bs_ st' l)↔∃ l∈st.links,l.1.1=x.2.id∧f=bs_ st l:=fun f=>by
  constructor
  ·rintro⟨l,h1,h2,h3⟩; exact⟨l,g.sub l h1,h2,by rw[h3,g.file l h1]⟩
  ·rintro⟨l,h1,h2,h3⟩;have:=g.all l h1 ⟨x,hx,h2.symm⟩;exact⟨l,this,h2,by rw[h3,g.file l this]⟩
 exact⟨fun h=>⟨h.asc,fun f=>(h.mem f).trans (key f)⟩,fun h=>⟨h.asc,fun f=>(h.mem f).trans (key f).symm⟩⟩
theorem k9_.infos {st st':StD} (g:k9_ st st') {is:List InfoR}:cn_ st' is↔cn_ st is:=by
 have key:∀ i,o2_ st' i↔o2_ st i:=fun i=>by
  constructor
  ·rintro⟨x,h1,h2,h3,h4,h5⟩;rw[g.snaps] at h1;exact⟨x,h1,h2,h3,h4,(g.files (dl_ h1)).1 h5⟩
  ·rintro⟨x,h1,h2,h3,h4,h5⟩;exact⟨x,by rw[g.snaps]; exact h1,h2,h3,h4,(g.files (dl_ h1)).2 h5⟩
 exact⟨fun h=>⟨by rw[←g.snaps]; exact h.perm,h.asc,fun i hi=>(key i).1 (h.info i hi)⟩,fun h=>⟨by rw[g.snaps]; exact h.perm,h.asc,fun i hi=>(key i).2 (h.info i hi)⟩⟩
theorem k9_.good {st st':StD} (g:k9_ st st') (h:dD_ st):dD_ st':=by
 refine⟨g.sto,by rw[g.snaps]; exact h.ids,by rw[g.snaps]; exact h.few,fun x hx fs hf=> ?_,fun is his=>h.root is (g.infos.1 his)⟩;rw[g.snaps] at hx;exact h.info x hx fs ((g.files hx).1 hf)
theorem zu_ {st:StD} (h:dD_ st) (ho:ee_ st=none):eE_ st≤54:=by
 have hsnap:=h.few;have key:∀ (xs:List (ByteArray × SnapR)) (ls:List (LKey × LVal)),(∀ l∈ls,∃ x∈xs,x.2.id=l.1.1)→(∀ x∈xs,(ls.countP fun l=>decide (l.1.1=x.2.id))≤4)→ls.length≤4*xs.length:=by
  intro xs;induction xs with
  | nil=>
   intro ls h1 _;cases ls with
   | nil=>simp
   | cons l ls=>obtain⟨x,hx,_⟩:=h1 l (by simp); cases hx
  | cons x xs ih=>
   intro ls h1 h2;have h3:=ih (ls.filter fun l=> !decide (l.1.1=x.2.id)) (fun l hl=>by
    obtain⟨q1,q2⟩:=List.mem_filter.1 hl;obtain⟨y,hy,e⟩:=h1 l q1;rcases List.mem_cons.1 hy with z | z
    ·subst z; simp [e] at q2
    ·exact⟨y,z,e⟩) (fun y hy=>Nat.le_trans (List.Sublist.countP_le List.filter_sublist) (h2 y (by simp [hy])))
   have h4:=h2 x (by simp);have h5:ls.length=(ls.countP fun l=>decide (l.1.1=x.2.id))+(ls.filter fun l=> !decide (l.1.1=x.2.id)).length:=by
    rw[←List.countP_eq_length_filter];have:=List.length_eq_countP_add_countP (fun l:LKey × LVal=>decide (l.1.1=x.2.id)) (l:=ls);rw[this];congr 1;apply List.countP_congr;intro l _; simp
   rw[List.length_cons]; omega
 have hl:st.links.length≤4*st.snaps.length:=by
  refine key st.snaps st.links (vb_ ho) fun x hx=> ?_;obtain⟨fs,hf⟩:=wb_ h.sto x.2.id;rw[←xp_ h.sto hf];exact ((eQ_ (i:=⟨x.1,x.2.kind,x.2.parent,x.2.label,fs⟩) hf.asc).1 (h.info x hx fs hf)).2.2.2.2
 have hi:st.inos.length≤st.links.length:=by
  have:=(dE_ (st.links.map (·.2.1)) (st.inos.map (·.1)) h.sto.nd.inos fun i hi=>by
   obtain⟨x,hx,rfl⟩:=List.mem_map.1 hi;have hc:=(dv_.1 h.sto.lk).2 x hx;have hm:=(h.sto.ok.inos x hx).2;unfold d8_ at hm;simp only[Bool.and_eq_true] at hm;have h1:1≤x.2.links:=by simpa using hm.1.1
   have:0 < eD_ st x.1:=by omega
   obtain⟨l,hl,e⟩:=List.countP_pos_iff.1 this;exact List.mem_map.2 ⟨l,hl,by simpa using e⟩).1
  rw[List.length_map,List.length_map] at this;exact this
 unfold eE_; omega
theorem lF_ {st:StD} (h:dD_ st):k9_ st (gq_ st)∧dD_ (gq_ st)∧eE_ (gq_ st)≤60:=by
 obtain⟨h1,h2⟩:=xT_ h.sto;have hg:=h1.good h;refine⟨h1,hg,?_⟩;by_cases hm:60 < eE_ st
 ·have:=zu_ hg (h2 hm); omega
 ·have:gq_ st=st:=by unfold gq_; rw[decide_eq_false hm]
  rw[this]; omega
theorem p3_ {st:StD} (h:dD_ st):∃ st',dx_ (fu_ (gq_ st))=some st'∧cn_ st (aA_ st')∧st'.snaps.Perm st.snaps∧Asc (fu_ (gq_ st)):=by
 obtain⟨h1,h2,_⟩:=lF_ h;obtain⟨st',e1,e2,e3,e4⟩:=zF_ h2;exact⟨st',e1,h1.infos.1 e3,by have:=e2.snaps; rw[h1.snaps] at this; exact this,e4⟩
end Go.Am
namespace Go.Am
theorem wa_ {used:Int→Bool}:∀ (f:Nat) (k:Int),(∃ j,k≤j∧j < k+f∧used j=false)→(k≤iA_ used f k∧iA_ used f k < k+f)∧used (iA_ used f k)=false
 | 0,k,⟨j,h1,h2,_⟩=>by omega
 | f+1,k,⟨j,h1,h2,h3⟩=>by
  rw[iA_];cases e:used k with
  | false=>dsimp only; exact⟨⟨by omega,by omega⟩,e⟩
  | true=>
   dsimp only;have hjk:j≠k:=fun q=>by rw[q,e] at h3; cases h3
   obtain⟨⟨a,b⟩,c⟩:=wa_ f (k+1) ⟨j,by omega,by omega,h3⟩;exact⟨⟨by omega,by omega⟩,c⟩
theorem wh_ {used:Int→Bool} {L:List Int} (hL:L.length < 255) (h:∀ j,used j=true→j∈L):(1≤iA_ used 255 1∧iA_ used 255 1≤255)∧used (iA_ used 255 1)=false:=by
 have hex:∃ j:Int,1≤j∧j < 1+(255:Nat)∧used j=false:=by
  refine Classical.byContradiction fun hne=> ?_;have hall:∀ x∈(List.range 255).map (fun n:Nat=>(n:Int)+1),x∈L:=fun x hx=>by
   obtain⟨n,hn,rfl⟩:=List.mem_map.1 hx;have hn:=List.mem_range.1 hn;refine h _ ?_;cases e:used ((n:Int)+1) with
   | true=>rfl
   | false=>exact absurd ⟨(n:Int)+1,by omega,by omega,e⟩ hne
  have hnd:((List.range 255).map (fun n:Nat=>(n:Int)+1)).Nodup:=by
   unfold List.Nodup;rw[List.pairwise_map];exact (List.nodup_range (n:=255)).imp fun r e=>r (by omega)
  have:=(dE_ L _ hnd hall).1;rw[List.length_map,List.length_range] at this;omega
 obtain⟨⟨a,b⟩,c⟩:=wa_ 255 1 hex;exact⟨⟨a,by omega⟩,c⟩
theorem rQ_ {st:StD} (hm:st.inos.length < 255):(1≤cK_ st∧cK_ st≤255)∧∀ x∈st.inos,x.1≠cK_ st:=by
 obtain⟨a,c⟩:=wh_ (used:=fun k=>st.inos.any fun x=>decide (x.1=k)) (L:=st.inos.map (·.1)) (by rw[List.length_map]; exact hm) fun j hj=>by
  obtain⟨x,hx,e⟩:=List.any_eq_true.1 hj;exact List.mem_map.2 ⟨x,hx,by simpa using e⟩
 refine⟨a,fun x hx e=> ?_⟩;have c':(st.inos.any fun x=>decide (x.1=cK_ st))=false:=c;rw[List.any_eq_false] at c';exact c' x hx (by simpa using e)
theorem qh_ {st:StD} (hm:st.snaps.length+st.links.length < 255):(1≤da_ st∧da_ st≤255)∧(∀ x∈st.snaps,x.2.id≠da_ st)∧∀ l∈st.links,l.1.1≠da_ st:=by
 obtain⟨a,c⟩:=wh_ (used:=k7_ st) (L:=st.snaps.map (fun x=>x.2.id)++st.links.map (fun l=>l.1.1)) (by rw[List.length_append,List.length_map,List.length_map]; exact hm) fun j hj=>by
  unfold k7_ at hj;rw[Bool.or_eq_true] at hj;rw[List.mem_append];rcases hj with q | q
  ·obtain⟨x,hx,e⟩:=List.any_eq_true.1 q;exact .inl (List.mem_map.2 ⟨x,hx,by simpa using e⟩)
  ·obtain⟨x,hx,e⟩:=List.any_eq_true.1 q;exact .inr (List.mem_map.2 ⟨x,hx,by simpa using e⟩)
 have c':k7_ st (da_ st)=false:=c;unfold k7_ at c';rw[Bool.or_eq_false_iff,List.any_eq_false,List.any_eq_false] at c';exact⟨a,fun x hx e=>c'.1 x hx (by simpa using e),fun l hl e=>c'.2 l hl (by simpa using e)⟩
def jp_ (st:StD) (id:Int) (path content:ByteArray):StD:=⟨st.snaps,st.links++[((id,path),(cK_ st,true))],st.inos++[(cK_ st,⟨1,content⟩)]⟩
theorem Aa_ {α β:Type} [DecidableEq α] {ps qs:List (α × β)} {k:α} {v:β} (h:look ps k=some v):look (ps++qs) k=some v:=by
 unfold look at h ⊢;rw[List.find?_append];cases e:ps.find? fun p=>decide (p.1=k) with
 | none=>rw[e] at h; cases h
 | some p=>rw[e] at h; exact h
theorem Ad_ {st:StD} (h:Sto st) {id:Int} {path content:ByteArray} (h1:1≤id) (h2:id≤255) (h3:bm_ path 3=true) (h4:content.size≤6) (hn:∀ l∈st.links,l.1≠(id,path)) (hm:st.inos.length < 255):Sto (jp_ st id path content):=by
 obtain⟨⟨k1,k2⟩,k3⟩:=rQ_ hm;obtain⟨e1,e2⟩:=dv_.1 h.lk;refine⟨⟨h.ok.snaps,fun l hl=> ?_,fun x hx=> ?_⟩,⟨h.nd.snaps,?_,?_⟩,dv_.2 ⟨fun l hl=> ?_,fun x hx=> ?_⟩⟩
 ·rcases List.mem_append.1 hl with q | q
  ·exact h.ok.links l q
  ·have:l=((id,path),(cK_ st,true)):=by simpa using q
   subst this;exact⟨⟨h1,h2⟩,h3,by dsimp only; omega,by dsimp only; omega⟩
 ·rcases List.mem_append.1 hx with q | q
  ·exact h.ok.inos x q
  ·have:x=(cK_ st,⟨1,content⟩):=by simpa using q
   subst this;refine⟨⟨k1,k2⟩,?_⟩;unfold d8_;simp; omega
 ·unfold jp_;dsimp only;rw[List.map_append,List.nodup_append];refine⟨h.nd.links,by simp,fun a ha b hb e=> ?_⟩;obtain⟨l,hl,rfl⟩:=List.mem_map.1 ha;have:b=(id,path):=by simpa using hb
  exact hn l hl (by rw[e,this])
 ·unfold jp_;dsimp only;rw[List.map_append,List.nodup_append];refine⟨h.nd.inos,by simp,fun a ha b hb e=> ?_⟩;obtain⟨x,hx,rfl⟩:=List.mem_map.1 ha;have:b=cK_ st:=by simpa using hb
  exact k3 x hx (by rw[e,this])
 ·unfold jp_;dsimp only;rcases List.mem_append.1 hl with q | q
  ·obtain⟨y,hy⟩:=e1 l q;exact⟨y,List.mem_append.2 (.inl hy)⟩
  ·have:l=((id,path),(cK_ st,true)):=by simpa using q
   subst this;exact⟨⟨1,content⟩,by simp⟩
 ·have hc:∀ n,eD_ (jp_ st id path content) n=eD_ st n+(if cK_ st=n then 1 else 0):=fun n=>by
   unfold eD_ jp_;dsimp only;rw[List.countP_append];by_cases z:cK_ st=n<;>simp [z]
  rw[hc];rcases List.mem_append.1 hx with q | q
  ·rw[if_neg (Ne.symm (k3 x q))];exact e2 x q
  ·have:x=(cK_ st,⟨1,content⟩):=by simpa using q
   subst this;have hz:eD_ st (cK_ st)=0:=by
    refine Nat.eq_zero_of_not_pos fun hp=> ?_;obtain⟨l,hl,e⟩:=List.countP_pos_iff.1 hp;obtain⟨y,hy⟩:=e1 l hl;exact k3 _ hy (by simpa using e)
   dsimp only;rw[hz,if_pos rfl]; rfl
theorem zy_ {st:StD} (h:Sto st) {id:Int} {path content:ByteArray} (hm:st.inos.length < 255):(∀ l∈st.links,bs_ (jp_ st id path content) l=bs_ st l)∧bs_ (jp_ st id path content) ((id,path),(cK_ st,true))=(path,content,true):=by
 obtain⟨_,k3⟩:=rQ_ hm;constructor
 ·intro l hl;obtain⟨y,hy,_⟩:=h.ino hl;unfold bs_;have:look (jp_ st id path content).inos l.2.1=some y:=Aa_ hy;rw[this,hy]
 ·unfold bs_;dsimp only;have:look (jp_ st id path content).inos (cK_ st)=some ⟨1,content⟩:=by
   unfold jp_ look;dsimp only;rw[List.find?_append,List.find?_eq_none.2 (fun x hx=>by simpa using k3 x hx)];simp
  rw[this]
def og_ (st:StD) (id:Int) (path:ByteArray):Option Nat:=st.links.findIdx? fun l=>decide (l.1.1=id)&&decide (l.1.2=path)
def f2_ (st:StD) (id:Int) (path content:ByteArray):StD:=match og_ st id path with | some i=>jp_ (j2_ st i) id path content | none=>jp_ st id path content
structure yH_ (st st':StD) (id:Int) (path content:ByteArray):Prop where
 sto:Sto st'
 snaps:st'.snaps=st.snaps
 other:∀ j,j≠id→∀ fs,ch_ st' j fs↔ch_ st j fs
 own:∀ fs fs',ch_ st id fs→ch_ st' id fs'→∀ f,f∈fs'↔f=(path,content,true)∨(f∈fs∧f.1≠path)
theorem uz_ {st0 st:StD} (h0:Sto st0) (h:Sto st) (hs:st.snaps=st0.snaps) {id:Int} {path content:ByteArray} (h1:1≤id) (h2:id≤255) (h3:bm_ path 3=true) (h4:content.size≤6) (hm:st.inos.length < 255)
 (hl:∀ l,l∈st.links↔l∈st0.links∧l.1≠(id,path)) (hf:∀ l∈st.links,bs_ st l=bs_ st0 l):yH_ st0 (jp_ st id path content) id path content:=by
 obtain⟨f1,f2⟩:=zy_ (id:=id) (path:=path) (content:=content) h hm;have hmem:∀ l,l∈(jp_ st id path content).links↔l∈st.links∨l=((id,path),(cK_ st,true)):=fun l=>by
  show l∈st.links++[_]↔_;simp
 have key:∀ j,j≠id→∀ f,(∃ l∈(jp_ st id path content).links,l.1.1=j∧f=bs_ (jp_ st id path content) l)↔∃ l∈st0.links,l.1.1=j∧f=bs_ st0 l:=fun j hj f=>by
  constructor
  ·rintro⟨l,q1,q2,q3⟩;rcases (hmem l).1 q1 with z | z
   ·exact⟨l,((hl l).1 z).1,q2,by rw[q3,f1 l z,hf l z]⟩
   ·subst z; exact absurd q2.symm hj
  ·rintro⟨l,q1,q2,q3⟩;have z:=(hl l).2 ⟨q1,fun e=>hj (by rw[←q2,e])⟩;exact⟨l,(hmem l).2 (.inl z),q2,by rw[q3,f1 l z,hf l z]⟩
 refine⟨Ad_ h h1 h2 h3 h4 (fun l hl'=>((hl l).1 hl').2) hm,hs,fun j hj fs=>⟨fun g=>⟨g.asc,fun f=>(g.mem f).trans (key j hj f)⟩,fun g=>⟨g.asc,fun f=>(g.mem f).trans (key j hj f).symm⟩⟩,fun fs fs' g g' f=> ?_⟩;rw[g'.mem];constructor
 ·rintro⟨l,q1,q2,q3⟩;rcases (hmem l).1 q1 with z | z
  ·obtain⟨z1,z2⟩:=(hl l).1 z;refine .inr ⟨(g.mem f).2 ⟨l,z1,q2,by rw[q3,f1 l z,hf l z]⟩,fun e=>z2 ?_⟩;rw[q3] at e;exact Prod.ext q2 e
  ·subst z; rw[q3,f2]; exact .inl rfl
 ·rintro (q | ⟨q1,q2⟩)
  ·exact⟨((id,path),(cK_ st,true)),(hmem _).2 (.inr rfl),rfl,by rw[f2]; exact q⟩
  ·obtain⟨l,z1,z2,z3⟩:=(g.mem f).1 q1;have z:=(hl l).2 ⟨z1,fun e=>q2 (by rw[z3]; show l.1.2=path; rw[e])⟩;exact⟨l,(hmem l).2 (.inl z),z2,by rw[z3,f1 l z,hf l z]⟩
theorem r7_ {st:StD} {id:Int} {path:ByteArray} {i:Nat} (h:og_ st id path=some i):∃ hi:i < st.links.length,st.links[i].1=(id,path):=by
 unfold og_ at h;rw[List.findIdx?_eq_some_iff_getElem] at h;obtain⟨hi,e,_⟩:=h;rw[Bool.and_eq_true,decide_eq_true_eq,decide_eq_true_eq] at e;exact⟨hi,Prod.ext e.1 e.2⟩
theorem xR_ {st:StD} {id:Int} {path:ByteArray} (h:og_ st id path=none):∀ l∈st.links,l.1≠(id,path):=by
 unfold og_ at h;rw[List.findIdx?_eq_none_iff] at h;intro l hl e;have:=h l hl;rw[e] at this;simp at this
theorem wd_ {st:StD} (h:Sto st) {id:Int} {path content:ByteArray} (h1:1≤id) (h2:id≤255) (h3:bm_ path 3=true) (h4:content.size≤6) (hm:st.inos.length < 255):yH_ st (f2_ st id path content) id path content:=by
 unfold f2_;cases e:og_ st id path with
 | none=>
  exact uz_ h h rfl h1 h2 h3 h4 hm (fun l=>⟨fun q=>⟨q,xR_ e l q⟩,fun q=>q.1⟩) fun _ _=>rfl
 | some i=>
  obtain⟨hi,ei⟩:=r7_ e;dsimp only;obtain⟨y,hy,eq⟩:=g5_ h hi;refine uz_ h (lH_ h hi) (by rw[eq]) h1 h2 h3 h4 ?_ (fun l=> ?_) fun l hl=>sB_ h hi hl
  ·rw[eq];dsimp only;refine Nat.lt_of_le_of_lt (List.length_filter_le _ _) ?_;unfold f0_;rw[hy,List.length_map]; exact hm
  ·rw[eq];dsimp only;have hp:=jH_ hi;have hnd:=(hp.map (·.1)).nodup_iff.2 h.nd.links;rw[List.map_cons,List.nodup_cons] at hnd;constructor
   ·intro q;refine⟨List.mem_of_mem_eraseIdx q,fun z=>hnd.1 ?_⟩;exact List.mem_map.2 ⟨l,q,by rw[z,ei]⟩
   ·rintro⟨q1,q2⟩;rcases List.mem_cons.1 (hp.mem_iff.2 q1) with z | z
    ·rw[z] at q2; exact absurd ei q2
    ·exact z
def tJ_ (xs:List (ByteArray × SnapR)):List InfoR:=xs.map fun x=>⟨x.1,x.2.kind,x.2.parent,x.2.label,[]⟩
theorem jO_ {xs:List (ByteArray × SnapR)} {i:InfoR}:i∈tJ_ xs↔∃ x∈xs,i=⟨x.1,x.2.kind,x.2.parent,x.2.label,[]⟩:=by
 unfold tJ_;rw[List.mem_map];exact⟨fun⟨x,h1,h2⟩=>⟨x,h1,h2.symm⟩,fun⟨x,h1,h2⟩=>⟨x,h1,h2.symm⟩⟩
theorem v3_ {st:StD} (hn:(st.snaps.map (·.1)).Nodup) {is:List InfoR} (h:cn_ st is) {p:ByteArray}:fq_ is p↔fq_ (tJ_ st.snaps) p:=by
 constructor
 ·refine fq_.mono fun y hy hk=> ?_;obtain⟨x,hx,e,_⟩:=h.get hy;refine⟨_,jO_.2 ⟨x,hx,rfl⟩,?_⟩;rw[e] at hk ⊢;exact⟨rfl,hk,rfl⟩
 ·refine fq_.mono fun y hy hk=> ?_;obtain⟨x,hx,e⟩:=jO_.1 hy;obtain⟨i,hi,ei,_⟩:=h.put hn hx;refine⟨i,hi,?_⟩;rw[e] at hk;rw[e,ei];exact⟨rfl,hk,rfl⟩
theorem dD_.hdr {st:StD} (g:dD_ st) {is:List InfoR} (his:cn_ st is):∀ x∈st.snaps,fq_ (tJ_ st.snaps) x.2.parent:=fun x hx=>by
 obtain⟨i,hi,e,_⟩:=his.put g.sto.nd.snaps hx;have:=g.root is his i hi;rw[e] at this;exact (v3_ g.sto.nd.snaps his).1 this
theorem vm_ {st:StD} (sto:Sto st) (ids:(st.snaps.map fun x=>x.2.id).Nodup) (few:st.snaps.length≤6) (info:∀ x∈st.snaps,∀ fs,ch_ st x.2.id fs→cD_ ⟨x.1,x.2.kind,x.2.parent,x.2.label,fs⟩=true) (root:∀ x∈st.snaps,fq_ (tJ_ st.snaps) x.2.parent):dD_ st:=
 ⟨sto,ids,few,info,fun is his i hi=>by
  obtain⟨x,hx,e,_⟩:=his.get hi;rw[e];exact (v3_ sto.nd.snaps his).2 (root x hx)⟩
theorem De_ {st:StD} (h:(st.snaps.map fun x=>x.2.id).Nodup) {x y:ByteArray × SnapR} (hx:x∈st.snaps) (hy:y∈st.snaps) (e:x.2.id=y.2.id):x=y:=by
 obtain⟨i,hi,rfl⟩:=List.getElem_of_mem hx;obtain⟨j,hj,rfl⟩:=List.getElem_of_mem hy;have:=(List.getElem_inj (h₀:=by simpa using hi) (h₁:=by simpa using hj) h).1 (by rw[List.getElem_map,List.getElem_map]; exact e);subst this; rfl
theorem lJ_ {is:List InfoR} {name path content:ByteArray} (h:d7_ is name path content=0):bm_ name 4=true∧bm_ path 3=true∧content.size≤6∧∃ i,cv_ is name=some i∧i.kind=0∧((i.files.any fun f=>decide (f.1=path))=true∨i.files.length < 4):=by
 unfold d7_ at h;cases w1:bm_ name 4 with
 | false=>rw[w1] at h; cases h
 | true=>
  rw[w1] at h;dsimp only at h;cases wa:ed_ is name==0 with
  | false=>
   rw[wa] at h;dsimp only at h;rw[h] at wa; cases wa
  | true=>
   rw[wa] at h;dsimp only at h;cases w3:bm_ path 3 with
   | false=>rw[w3] at h; cases h
   | true=>
    rw[w3] at h;dsimp only at h;cases w4:leI (sz content) 6 with
    | false=>rw[w4] at h; cases h
    | true=>
     rw[w4] at h;dsimp only at h;refine⟨rfl,rfl,by simp at w4; omega,?_⟩;have wa':ed_ is name=0:=by simpa using wa
     unfold ed_ at wa';cases hf:cv_ is name with
     | none=>rw[hf] at wa'; cases wa'
     | some i=>
      rw[hf] at wa' h;dsimp only at wa' h;refine⟨i,rfl,?_,?_⟩
      ·cases hk:eqI i.kind 0 with
       | true=>simpa using hk
       | false=>rw[hk] at wa'; cases wa'
      ·cases ha:i.files.any fun f=>decide (f.1=path) with
       | true=>exact .inl rfl
       | false=>
        rw[ha] at h;dsimp only at h;cases hl:leI 4 (i.files.length:Int) with
        | true=>rw[hl] at h; cases h
        | false=>right; simp at hl; omega
theorem f9_ {is:List InfoR} {s:ByteArray} {i:InfoR} (h:cv_ is s=some i):i∈is∧i.name=s:=by
 unfold cv_ at h;exact⟨List.mem_of_find?_eq_some h,by simpa using List.find?_some h⟩
theorem mX_ {st:StD} (g:dD_ st) {is:List InfoR} (his:cn_ st is) {name path content:ByteArray} (hm:st.inos.length < 255) (hw:d7_ is name path content=0) {x:SnapR} (hx:look st.snaps name=some x):
 dD_ (f2_ st x.id path content)∧yH_ st (f2_ st x.id path content) x.id path content:=by
 obtain⟨w1,w2,w3,i,hi,hk,hfew⟩:=lJ_ hw;have hxm:=dl_ hx;obtain⟨⟨b1,b2⟩,_⟩:=ou_ (g.sto.ok.snaps _ hxm).2;have W:=wd_ g.sto (id:=x.id) (path:=path) (content:=content) b1 b2 w2 w3 hm;refine⟨vm_ W.sto (by rw[W.snaps]; exact g.ids) (by rw[W.snaps]; exact g.few) (fun y hy fs' hf'=> ?_) (by rw[W.snaps]; exact g.hdr his),W⟩;rw[W.snaps] at hy;by_cases e:y.2.id=x.id
 ·have:=De_ g.ids hy hxm e;subst this;dsimp only at hf' ⊢;obtain⟨him,hin⟩:=f9_ hi;obtain⟨z,hz,ez,hfz⟩:=his.get him;have hz1:z.1=name:=by rw[ez] at hin; exact hin
  have hzx:z.2=x:=by
   have:=gv_ g.sto.nd.snaps hz;rw[hz1,hx] at this;exact (Option.some.inj this).symm
  rw[hzx] at hfz ez;have hkind:x.kind=0:=by rw[ez] at hk; exact hk
  have hold:=g.info _ hxm _ hfz;dsimp only at hold;obtain⟨o1,o2,o3,o4,o5⟩:=(eQ_ (i:=⟨name,x.kind,x.parent,x.label,i.files⟩) hfz.asc).1 hold;dsimp only at o1 o2 o3 o4 o5;have hmem:=W.own _ _ hfz hf';refine (eQ_ (i:=⟨name,x.kind,x.parent,x.label,fs'⟩) hf'.asc).2 ⟨o1,o2,o3,fun f hf=> ?_,?_⟩
  ·dsimp only at hf ⊢;rcases (hmem f).1 hf with q | q
   ·subst q;unfold du_;rw[w2,hkind];simp; omega
   ·exact o4 f q.1
  ·dsimp only;have hnd':=hf'.nodup;by_cases hp:(i.files.any fun f=>decide (f.1=path))=true
   ·obtain⟨f0,hf0,e0⟩:=List.any_eq_true.1 hp;have e0':f0.1=path:=by simpa using e0
    have hsub:=(dE_ (i.files.map fun f=>f.1) (fs'.map fun f=>f.1) (by
     unfold List.Nodup; rw[List.pairwise_map]; exact hf'.asc.imp fun r q=>by rw[q,c4_] at r; cases r) fun s hs=>by
     obtain⟨f,hf,rfl⟩:=List.mem_map.1 hs;rcases (hmem f).1 hf with q | q
     ·subst q; exact List.mem_map.2 ⟨f0,hf0,e0'⟩
     ·exact List.mem_map.2 ⟨f,q.1,rfl⟩).1
    rw[List.length_map,List.length_map] at hsub;omega
   ·have h4:i.files.length < 4:=by
     rcases hfew with q | q
     ·exact absurd q hp
     ·exact q
    have hsub:=(dE_ ((path,content,true)::i.files) fs' hnd' fun f hf=>by
     rcases (hmem f).1 hf with q | q
     ·subst q; simp
     ·simp [q.1]).1
    rw[List.length_cons] at hsub;omega
 ·exact g.info y hy fs' ((W.other _ e fs').1 hf')
end Go.Am
namespace Go.Am
def gH_ (id frm:Int) (st:StD) (l:LKey × LVal):StD:=match decide (l.1.1=frm) with
 | false=>st
 | true=>match look st.inos l.2.1 with
  | none=>st
  | some y=>⟨st.snaps,st.links++[((id,l.1.2),(l.2.1,false))],f0_ st.inos l.2.1 ⟨y.links+1,y.content⟩⟩
def os_ (st:StD) (parent:ByteArray):StD:=match decide (parent=mkS []) with
 | true=>st
 | false=>match look st.snaps parent with
  | none=>st
  | some x=>st.links.foldl (gH_ (da_ st) x.id) st
def dk_ (st:StD) (name parent:ByteArray) (kind:Int):StD:=let s:=os_ st parent; ⟨s.snaps++[(name,⟨da_ st,kind,parent,mkS []⟩)],s.links,s.inos⟩
def Cp_ (st:StD) (l:LKey × LVal):FileR:=(l.1.2,(bs_ st l).2.1,false)
structure Kid (st:StD) (id frm:Int) (ls:List (LKey × LVal)) (st':StD):Prop where
 sto:Sto st'
 snaps:st'.snaps=st.snaps
 len:st'.links.length≤st.links.length+ls.length
 nos:st'.inos.length=st.inos.length
 sub:∀ l,l∈st'.links↔l∈st.links∨∃ m∈ls,m.1.1=frm∧l=((id,m.1.2),(m.2.1,false))
 text:∀ k,(∃ y',(k,y')∈st'.inos)↔∃ y,(k,y)∈st.inos
 same:∀ k y' y,(k,y')∈st'.inos→(k,y)∈st.inos→y'.content=y.content
theorem v0_ {st:StD} (h:Sto st) {id frm:Int} (h1:1≤id) (h2:id≤255) (hu:∀ l∈st.links,l.1.1≠id) (hl:st.links.length≤60) {ls:List (LKey × LVal)} {l:LKey × LVal} (hin:l∈st.links) (hsub:∀ m∈ls,m∈st.links) (hnew:∀ m∈ls,m.1≠l.1) (hls:ls.length≤60) {st':StD} (k:Kid st id frm ls st'):Kid st id frm (ls++[l]) (gH_ id frm st' l):=by
 unfold gH_;cases e:decide (l.1.1=frm) with
 | false=>
  dsimp only;have e': ¬ l.1.1=frm:=by simpa using e
  refine⟨k.sto,k.snaps,by rw[List.length_append]; have:=k.len; omega,k.nos,fun m=> ?_,k.text,k.same⟩;rw[k.sub];constructor
  ·rintro (q | ⟨x,hx,q⟩)
   ·exact .inl q
   ·exact .inr ⟨x,by simp [hx],q⟩
  ·rintro (q | ⟨x,hx,q1,q2⟩)
   ·exact .inl q
   ·rcases List.mem_append.1 hx with z | z
    ·exact .inr ⟨x,z,q1,q2⟩
    ·have:x=l:=by simpa using z
     subst this; exact absurd q1 e'
 | true=>
  dsimp only;have e':l.1.1=frm:=by simpa using e
  obtain⟨y0,_,hy0,_⟩:=h.ino hin;obtain⟨y,hy⟩:=(k.text l.2.1).2 ⟨y0,hy0⟩;have hlk:=(df_ k.sto.nd.inos).2 hy;rw[hlk];dsimp only;obtain⟨e1,e2⟩:=dv_.1 k.sto.lk;have hcy:=e2 _ hy;dsimp only at hcy;have hmay:=(k.sto.ok.inos _ hy).2;have hcl:eD_ st' l.2.1≤st'.links.length:=List.countP_le_length;have hyb:y.links≤120:=by have:=k.len; omega
  have hpm:=oo_ k.sto.nd.inos (v:=(⟨y.links+1,y.content⟩:InoR)) hlk;have hkey:∀ m∈st'.links,m.1≠(id,l.1.2):=fun m hm q=>by
   rcases (k.sub m).1 hm with z | ⟨x,hx,z1,z2⟩
   ·exact hu m z (by rw[q])
   ·rw[z2] at q;have q2':=congrArg (fun z:LKey=>z.2) q;have q2:x.1.2=l.1.2:=q2';exact hnew x hx (Prod.ext (by rw[z1,e']) q2)
  have hc:∀ n,eD_ ⟨st'.snaps,st'.links++[((id,l.1.2),(l.2.1,false))],f0_ st'.inos l.2.1 ⟨y.links+1,y.content⟩⟩ n=eD_ st' n+(if l.2.1=n then 1 else 0):=fun n=>by
   unfold eD_;dsimp only;rw[List.countP_append];by_cases z:l.2.1=n<;>simp [z]
  refine⟨⟨⟨k.sto.ok.snaps,fun m hm=> ?_,fun x hx=> ?_⟩,⟨k.sto.nd.snaps,?_,tw_ k.sto.nd.inos hlk⟩,dv_.2 ⟨fun m hm=> ?_,fun x hx=> ?_⟩⟩,k.snaps,?_,?_,fun m=> ?_,fun n=> ?_,fun n y' y'' g1 g2=> ?_⟩
  ·rcases List.mem_append.1 hm with q | q
   ·exact k.sto.ok.links m q
   ·have:m=((id,l.1.2),(l.2.1,false)):=by simpa using q
    subst this;obtain⟨_,c2,c3,c4⟩:=h.ok.links l hin;exact⟨⟨h1,h2⟩,c2,c3,c4⟩
  ·rcases (hpm x).1 hx with q | q
   ·subst q;obtain⟨c1,c2⟩:=k.sto.ok.inos _ hy;refine⟨c1,?_⟩;unfold d8_ at c2 ⊢;simp only[Bool.and_eq_true] at c2 ⊢;have c21:1≤y.links:=by simpa using c2.1.1
    exact⟨⟨by simp; omega,by simp; omega⟩,c2.2⟩
   ·exact k.sto.ok.inos x q.1
  ·dsimp only;rw[List.map_append,List.nodup_append];refine⟨k.sto.nd.links,by simp,fun a ha b hb q=> ?_⟩;obtain⟨m,hm,rfl⟩:=List.mem_map.1 ha;have:b=(id,l.1.2):=by simpa using hb
   exact hkey m hm (by rw[q,this])
  ·dsimp only;have tomem:∀ n z,(n,z)∈st'.inos→∃ z',(n,z')∈f0_ st'.inos l.2.1 ⟨y.links+1,y.content⟩:=fun n z hz=>by
    by_cases q:n=l.2.1
    ·exact⟨_,(hpm _).2 (.inl (by rw[q]))⟩
    ·exact⟨z,(hpm _).2 (.inr ⟨hz,q⟩)⟩
   rcases List.mem_append.1 hm with q | q
   ·obtain⟨z,hz⟩:=e1 m q;exact tomem _ z hz
   ·have:m=((id,l.1.2),(l.2.1,false)):=by simpa using q
    subst this;exact tomem _ y hy
  ·rw[hc];rcases (hpm x).1 hx with q | q
   ·subst q;dsimp only;rw[if_pos rfl]; omega
   ·rw[if_neg (Ne.symm q.2)];exact e2 x q.1
  ·dsimp only;rw[List.length_append,List.length_append];have:=k.len;simp; omega
  ·dsimp only;rw[←k.nos]; unfold f0_; rw[hlk,List.length_map]
  ·dsimp only;rw[List.mem_append,k.sub];constructor
   ·rintro ((q | ⟨x,hx,q⟩) | q)
    ·exact .inl q
    ·exact .inr ⟨x,by simp [hx],q⟩
    ·exact .inr ⟨l,by simp,e',by simpa using q⟩
   ·rintro (q | ⟨x,hx,q1,q2⟩)
    ·exact .inl (.inl q)
    ·rcases List.mem_append.1 hx with z | z
     ·exact .inl (.inr ⟨x,z,q1,q2⟩)
     ·have:x=l:=by simpa using z
      subst this; exact .inr (by simp [q2])
  ·dsimp only;rw[←k.text];constructor
   ·rintro⟨y',q⟩;rcases (hpm _).1 q with z | z
    ·have:=congrArg Prod.fst z;dsimp only at this;exact⟨y,by rw[this]; exact hy⟩
    ·exact⟨y',z.1⟩
   ·rintro⟨y',q⟩;by_cases z:n=l.2.1
    ·exact⟨_,(hpm _).2 (.inl (by rw[z]))⟩
    ·exact⟨y',(hpm _).2 (.inr ⟨q,z⟩)⟩
  ·dsimp only at g1;rcases (hpm _).1 g1 with z | z
   ·have z1:=congrArg Prod.fst z;have z2:=congrArg Prod.snd z;dsimp only at z1 z2;rw[z2];rw[z1] at g2;exact k.same l.2.1 y y'' hy g2
   ·exact k.same n y' y'' z.1 g2
theorem xc_ {st:StD} (h:Sto st) {id frm:Int} (h1:1≤id) (h2:id≤255) (hu:∀ l∈st.links,l.1.1≠id) (hl:st.links.length≤60):∀ (ms ls:List (LKey × LVal)) (st':StD),st.links=ls++ms→Kid st id frm ls st'→Kid st id frm st.links (ms.foldl (gH_ id frm) st')
 | [],ls,st',e,k=>by
  rw[List.append_nil] at e;rw[List.foldl_nil,e]; exact k
 | m::ms,ls,st',e,k=>by
  rw[List.foldl_cons];have hm:m∈st.links:=by rw[e]; simp
  have hnd:=h.nd.links;rw[e,List.map_append,List.nodup_append] at hnd;refine xc_ h h1 h2 hu hl ms (ls++[m]) _ (by rw[e]; simp) (v0_ h h1 h2 hu hl hm (fun x hx=>by rw[e]; simp [hx]) (fun x hx q=> ?_) ?_ k)
  ·exact hnd.2.2 x.1 (List.mem_map.2 ⟨x,hx,rfl⟩) m.1 (by simp) q
  ·have:=congrArg List.length e;rw[List.length_append] at this; omega
theorem Kid.file {st:StD} (h:Sto st) {id frm:Int} {ls:List (LKey × LVal)} {st':StD} (k:Kid st id frm ls st') {l:LKey × LVal} (hl:l∈st.links) {l':LKey × LVal} (he:l'.2.1=l.2.1):(bs_ st' l').2.1=(bs_ st l).2.1:=by
 obtain⟨y,hy,hm,_⟩:=h.ino hl;obtain⟨y',hm'⟩:=(k.text l.2.1).2 ⟨y,hm⟩;have hy':=(df_ k.sto.nd.inos).2 hm';unfold bs_;rw[he,hy,hy'];exact k.same _ _ _ hm' hm
theorem tF_ {is:List InfoR} {name parent:ByteArray} {kind:Int} (h:ga_ is name parent kind=0):bm_ name 4=true∧(parent=mkS []∨bm_ parent 4=true)∧(kind=0∨kind=1)∧cv_ is name=none∧iP_ is parent=true∧is.length < 6:=by
 unfold ga_ at h;cases w1:bm_ name 4 with
 | false=>rw[w1] at h; cases h
 | true=>
  rw[w1] at h;dsimp only at h;cases w2:decide (parent=mkS [])||bm_ parent 4 with
  | false=>rw[w2] at h; cases h
  | true=>
   rw[w2] at h;dsimp only at h;cases w3:eqI kind 0||eqI kind 1 with
   | false=>rw[w3] at h; cases h
   | true=>
    rw[w3] at h;dsimp only at h;cases w4:cv_ is name with
    | some i=>rw[w4] at h; cases h
    | none=>
     rw[w4] at h;dsimp only[Option.isSome_none] at h;cases w5:iP_ is parent with
     | false=>rw[w5] at h; cases h
     | true=>
      rw[w5] at h;dsimp only at h;cases w6:leI 6 (is.length:Int) with
      | true=>rw[w6] at h; cases h
      | false=>
       refine⟨rfl,?_,?_,rfl,rfl,by simp at w6; omega⟩
       ·rw[Bool.or_eq_true,decide_eq_true_eq] at w2; exact w2
       ·rw[Bool.or_eq_true] at w3;simpa using w3
structure Do_ (st st':StD) (name:ByteArray) (id:Int) (kind:Int) (parent:ByteArray):Prop where
 good:dD_ st'
 snaps:st'.snaps=st.snaps++[(name,⟨id,kind,parent,mkS []⟩)]
 bare:∀ fs,ch_ st' id fs→∀ f∈fs,f.2.2=false
theorem sy_ {st:StD} (h:Sto st) (hm:eE_ st≤60) (parent:ByteArray):∃ frm ls,Kid st (da_ st) frm ls (os_ st parent)∧(ls=[]∨(parent≠mkS []∧ls=st.links∧∃ x,look st.snaps parent=some x∧frm=x.id)):=by
 unfold eE_ at hm;obtain⟨⟨k1,k2⟩,_,k4⟩:=qh_ (st:=st) (by omega);have base:∀ frm,Kid st (da_ st) frm [] st:=fun frm=>⟨h,rfl,by simp,rfl,fun l=>by simp,fun k=>Iff.rfl,fun k y y' g1 g2=>by
  have e1:=(df_ h.nd.inos).2 g1;have e2:=(df_ h.nd.inos).2 g2;rw[e1] at e2; rw[Option.some.inj e2]⟩
 unfold os_;cases e:decide (parent=mkS []) with
 | true=>exact⟨0,[],base 0,.inl rfl⟩
 | false=>
  dsimp only;cases hx:look st.snaps parent with
  | none=>exact⟨0,[],base 0,.inl rfl⟩
  | some x=>
   dsimp only;exact⟨x.id,st.links,xc_ h k1 k2 k4 (by omega) st.links [] st rfl (base x.id),.inr ⟨by simpa using e,rfl,x,rfl,rfl⟩⟩
theorem op_ {st:StD} (g:dD_ st) (hm:eE_ st≤60) {is:List InfoR} (his:cn_ st is) {name parent:ByteArray} {kind:Int} (hp:ga_ is name parent kind=0):Do_ st (dk_ st name parent kind) name (da_ st) kind parent:=by
 obtain⟨w1,w2,w3,w4,w5,w6⟩:=tF_ hp;have hm':=hm;unfold eE_ at hm';obtain⟨⟨k1,k2⟩,k3,k4⟩:=qh_ (st:=st) (by omega);obtain⟨frm,ls,K,hls⟩:=sy_ g.sto hm parent;have hsn:(dk_ st name parent kind).snaps=st.snaps++[(name,⟨da_ st,kind,parent,mkS []⟩)]:=by
  unfold dk_; dsimp only; rw[K.snaps]
 have hlk:(dk_ st name parent kind).links=(os_ st parent).links:=rfl;have hin:(dk_ st name parent kind).inos=(os_ st parent).inos:=rfl;have hfile:∀ l,bs_ (dk_ st name parent kind) l=bs_ (os_ st parent) l:=fun l=>by unfold bs_; rw[hin]
 have hslen:is.length=st.snaps.length:=by have:=his.perm.length_eq; simpa using this
 have hnew:∀ x∈st.snaps,x.1≠name:=fun x hx e=>by
  obtain⟨i,hi,ei,_⟩:=his.put g.sto.nd.snaps hx;unfold cv_ at w4;rw[List.find?_eq_none] at w4;exact w4 i hi (by rw[ei]; simpa using e)
 have hlsub:∀ m∈ls,m∈st.links:=fun m h=>by
  rcases hls with q | ⟨_,q,_⟩
  ·rw[q] at h; cases h
  ·rw[q] at h; exact h
 have other:∀ j,j≠da_ st→∀ fs,ch_ (dk_ st name parent kind) j fs↔ch_ st j fs:=fun j hj fs=>by
  have key:∀ f,(∃ l∈(dk_ st name parent kind).links,l.1.1=j∧f=bs_ (dk_ st name parent kind) l)↔∃ l∈st.links,l.1.1=j∧f=bs_ st l:=fun f=>by
   have same:∀ l∈st.links,bs_ (dk_ st name parent kind) l=bs_ st l:=fun l hl=>by
    rw[hfile];exact Prod.ext rfl (Prod.ext (K.file g.sto hl rfl) rfl)
   constructor
   ·rintro⟨l,q1,q2,q3⟩;rw[hlk] at q1;rcases (K.sub l).1 q1 with z | ⟨m,hm,z1,z2⟩
    ·exact⟨l,z,q2,by rw[q3,same l z]⟩
    ·rw[z2] at q2; exact absurd q2.symm hj
   ·rintro⟨l,q1,q2,q3⟩;exact⟨l,(K.sub l).2 (.inl q1),q2,by rw[q3,same l q1]⟩
  exact⟨fun g=>⟨g.asc,fun f=>(g.mem f).trans (key f)⟩,fun g=>⟨g.asc,fun f=>(g.mem f).trans (key f).symm⟩⟩
 have own:∀ fs,ch_ (dk_ st name parent kind) (da_ st) fs→∀ f∈fs,∃ m∈ls,m.1.1=frm∧f=Cp_ st m:=fun fs hf f hff=>by
  obtain⟨l,q1,q2,q3⟩:=(hf.mem f).1 hff;rcases (K.sub l).1 q1 with z | ⟨m,hm,z1,z2⟩
  ·exact absurd q2 (k4 l z)
  ·refine⟨m,hm,z1,?_⟩;rw[q3,hfile];unfold Cp_;refine Prod.ext (by rw[z2]; rfl) (Prod.ext (K.file g.sto (hlsub m hm) (by rw[z2])) (by rw[z2]; rfl))
 have sto:Sto (dk_ st name parent kind):=by
  refine⟨⟨fun x hx=> ?_,K.sto.ok.links,K.sto.ok.inos⟩,⟨?_,K.sto.nd.links,K.sto.nd.inos⟩,?_⟩
  ·rw[hsn] at hx;rcases List.mem_append.1 hx with q | q
   ·exact g.sto.ok.snaps x q
   ·have:x=(name,⟨da_ st,kind,parent,mkS []⟩):=by simpa using q
    subst this;refine⟨w1,?_⟩;unfold eR_;simp only[Bool.and_eq_true,Bool.or_eq_true];refine⟨⟨by simpa using k1,by simpa using k2⟩,⟨?_,?_⟩,?_,rfl⟩
    ·rcases w3 with q | q<;>rw[q]<;>rfl
    ·rcases w3 with q | q<;>rw[q]<;>rfl
    ·rcases w2 with q | q
     ·exact .inl (by simpa using q)
     ·exact .inr q
  ·rw[hsn,List.map_append,List.nodup_append];refine⟨g.sto.nd.snaps,by simp,fun a ha b hb e=> ?_⟩;obtain⟨x,hx,rfl⟩:=List.mem_map.1 ha;have:b=name:=by simpa using hb
   exact hnew x hx (by rw[e,this])
  ·exact K.sto.lk
 have par:parent=mkS []∨∃ y,look st.snaps parent=some y∧y.kind=2:=by
  unfold iP_ at w5;rw[Bool.or_eq_true,decide_eq_true_eq] at w5;rcases w5 with q | q
  ·exact .inl q
  ·right;cases hf:cv_ is parent with
   | none=>rw[hf] at q; cases q
   | some i=>
    rw[hf] at q;obtain⟨him,hin⟩:=f9_ hf;obtain⟨z,hz,ez,_⟩:=his.get him;refine⟨z.2,?_,?_⟩
    ·have:=gv_ g.sto.nd.snaps hz;rw[show z.1=parent by rw[ez] at hin; exact hin] at this;exact this
    ·rw[ez] at q; simpa using q
 refine⟨vm_ sto ?_ ?_ (fun y hy fs hf=> ?_) (fun y hy=> ?_),hsn,fun fs hf f hff=> ?_⟩
 ·rw[hsn,List.map_append,List.nodup_append];refine⟨g.ids,by simp,fun a ha b hb e=> ?_⟩;obtain⟨x,hx,rfl⟩:=List.mem_map.1 ha;have:b=da_ st:=by simpa using hb
  exact k3 x hx (by rw[e,this])
 ·rw[hsn,List.length_append]; simp; omega
 ·rw[hsn] at hy;rcases List.mem_append.1 hy with q | q
  ·exact g.info y q fs ((other _ (k3 y q) fs).1 hf)
  ·have:y=(name,⟨da_ st,kind,parent,mkS []⟩):=by simpa using q
   subst this;dsimp only at hf ⊢;have hown:=own fs hf;rcases hls with q | ⟨hne,q,x,hx,hfrm⟩
   ·have:fs=[]:=by
     cases fs with
     | nil=>rfl
     | cons f fs=>obtain⟨m,hm,_⟩:=hown f (by simp); rw[q] at hm; cases hm
    subst this;refine (eQ_ (i:=⟨name,kind,parent,mkS [],[]⟩) List.Pairwise.nil).2 ⟨w1,?_,Nat.zero_le _,(fun f hf=>absurd hf List.not_mem_nil),Nat.zero_le _⟩;dsimp only;rcases w3 with z | z<;>rw[z]<;>decide
   ·obtain⟨fs0,hf0⟩:=wb_ g.sto frm;have hold:=g.info _ (dl_ hx) fs0 (by dsimp only; rw[←hfrm]; exact hf0);obtain⟨o1,o2,o3,o4,o5⟩:=(eQ_ (i:=⟨parent,x.kind,x.parent,x.label,fs0⟩) hf0.asc).1 hold;dsimp only at o1 o2 o3 o4 o5;have hmem:∀ f∈fs,∃ f0∈fs0,f=(f0.1,f0.2.1,false):=fun f hff=>by
     obtain⟨m,hm,z1,z2⟩:=hown f hff;exact⟨bs_ st m,(hf0.mem _).2 ⟨m,hlsub m hm,z1,rfl⟩,by rw[z2]; rfl⟩
    refine (eQ_ (i:=⟨name,kind,parent,mkS [],fs⟩) hf.asc).2 ⟨w1,?_,Nat.zero_le _,fun f hff=> ?_,?_⟩
    ·dsimp only;rcases w3 with z | z<;>rw[z]<;>decide
    ·obtain⟨f0,h0,e0⟩:=hmem f hff;have:=o4 f0 h0;unfold du_ at this ⊢;simp only[Bool.and_eq_true] at this ⊢;rw[e0];exact⟨this.1,this.2.1,by simp⟩
    ·dsimp only;have hsub:=(dE_ (fs0.map fun f=>f.1) (fs.map fun f=>f.1) (by
      unfold List.Nodup; rw[List.pairwise_map]; exact hf.asc.imp fun r q=>by rw[q,c4_] at r; cases r) fun s hs=>by
      obtain⟨f,hff,rfl⟩:=List.mem_map.1 hs;obtain⟨f0,h0,e0⟩:=hmem f hff;exact List.mem_map.2 ⟨f0,h0,by rw[e0]⟩).1
     rw[List.length_map,List.length_map] at hsub;omega
 ·have mono:∀ p,fq_ (tJ_ st.snaps) p→fq_ (tJ_ (dk_ st name parent kind).snaps) p:=fun p=>fq_.mono fun z hz hk=>by
   obtain⟨x,hx,e⟩:=jO_.1 hz;exact⟨z,jO_.2 ⟨x,by rw[hsn]; simp [hx],e⟩,rfl,hk,rfl⟩
  rw[hsn] at hy;rcases List.mem_append.1 hy with q | q
  ·exact mono _ (g.hdr his y q)
  ·have:y=(name,⟨da_ st,kind,parent,mkS []⟩):=by simpa using q
   subst this;dsimp only;refine mono _ ?_;rcases par with z | ⟨p,hp1,hp2⟩
   ·rw[z]; exact .nil
   ·have hpm:=dl_ hp1;have:=fq_.step (is:=tJ_ st.snaps) (y:=⟨parent,p.kind,p.parent,p.label,[]⟩) (jO_.2 ⟨_,hpm,rfl⟩) hp2 (g.hdr his _ hpm);exact this
 ·obtain⟨m,_,_,e⟩:=own fs hf f hff;rw[e]; rfl
end Go.Am
section
set_option maxRecDepth 100000
namespace Go.Am
def d3_ (st:StD) (name to:ByteArray):StD:=⟨st.snaps.map fun x=>if x.1=name then (to,⟨x.2.id,2,x.2.parent,x.2.label⟩) else x,st.links,st.inos⟩
theorem rX_ {is:List InfoR} {name to:ByteArray} (h:d4_ is name to=0):bm_ name 4=true∧bm_ to 4=true∧(∃ i,cv_ is name=some i∧i.kind=0)∧cv_ is to=none:=by
 unfold d4_ at h;cases w1:bm_ name 4&&bm_ to 4 with
 | false=>rw[w1] at h; cases h
 | true=>
  rw[w1] at h;dsimp only at h;rw[Bool.and_eq_true] at w1;cases wa:ed_ is name==0 with
  | false=>
   rw[wa] at h;dsimp only at h;rw[h] at wa; cases wa
  | true=>
   rw[wa] at h;dsimp only at h;have wa':ed_ is name=0:=by simpa using wa
   refine⟨w1.1,w1.2,?_,?_⟩
   ·unfold ed_ at wa';cases hf:cv_ is name with
    | none=>rw[hf] at wa'; cases wa'
    | some i=>
     rw[hf] at wa';dsimp only at wa';refine⟨i,rfl,?_⟩;cases hk:eqI i.kind 0 with
     | true=>simpa using hk
     | false=>rw[hk] at wa'; cases wa'
   ·cases hf:cv_ is to with
    | none=>rfl
    | some i=>rw[hf] at h; cases h
theorem v9_ {st:StD} (g:dD_ st) {is:List InfoR} (his:cn_ st is) {name to:ByteArray} (hc:d4_ is name to=0):dD_ (d3_ st name to):=by
 obtain⟨w1,w2,⟨i,hi,hk⟩,hto⟩:=rX_ hc;have hnew:∀ x∈st.snaps,x.1≠to:=fun x hx e=>by
  obtain⟨i,hi,ei,_⟩:=his.put g.sto.nd.snaps hx;unfold cv_ at hto;rw[List.find?_eq_none] at hto;exact hto i hi (by rw[ei]; simpa using e)
 have hkind:∀ x∈st.snaps,x.1=name→x.2.kind=0:=fun x hx e=>by
  obtain⟨him,hin⟩:=f9_ hi;obtain⟨z,hz,ez,_⟩:=his.get him;have h1:=gv_ g.sto.nd.snaps hz;have h2:=gv_ g.sto.nd.snaps hx;rw[show z.1=name by rw[ez] at hin; exact hin] at h1;rw[e,h1] at h2;rw[←Option.some.inj h2];rw[ez] at hk; exact hk
 have hmem:∀ y,y∈(d3_ st name to).snaps↔∃ x∈st.snaps,(x.1≠name∧y=x)∨(x.1=name∧y=(to,⟨x.2.id,2,x.2.parent,x.2.label⟩)):=fun y=>by
  unfold d3_;dsimp only;rw[List.mem_map];constructor
  ·rintro⟨x,hx,e⟩;refine⟨x,hx,?_⟩;by_cases q:x.1=name
   ·rw[if_pos q] at e; exact .inr ⟨q,e.symm⟩
   ·rw[if_neg q] at e; exact .inl ⟨q,e.symm⟩
  ·rintro⟨x,hx,⟨q,e⟩ | ⟨q,e⟩⟩
   ·exact⟨x,hx,by rw[if_neg q,e]⟩
   ·exact⟨x,hx,by rw[if_pos q,e]⟩
 have hids:(d3_ st name to).snaps.map (fun x=>x.2.id)=st.snaps.map fun x=>x.2.id:=by
  unfold d3_;dsimp only;rw[List.map_map];apply List.map_congr_left;intro x _;dsimp only[Function.comp];by_cases q:x.1=name
  ·rw[if_pos q]
  ·rw[if_neg q]
 have hfiles:∀ j fs,ch_ (d3_ st name to) j fs↔ch_ st j fs:=fun j fs=>⟨fun h=>⟨h.asc,h.mem⟩,fun h=>⟨h.asc,h.mem⟩⟩;have sto:Sto (d3_ st name to):=by
  refine⟨⟨fun y hy=> ?_,g.sto.ok.links,g.sto.ok.inos⟩,⟨?_,g.sto.nd.links,g.sto.nd.inos⟩,g.sto.lk⟩
  ·obtain⟨x,hx,⟨q,e⟩ | ⟨q,e⟩⟩:=(hmem y).1 hy
   ·rw[e]; exact g.sto.ok.snaps x hx
   ·rw[e];refine⟨w2,?_⟩;have:=(g.sto.ok.snaps x hx).2;unfold eR_ at this ⊢;simp only[Bool.and_eq_true] at this ⊢;exact⟨this.1,⟨rfl,rfl⟩,this.2.2⟩
  ·have hn:=g.sto.nd.snaps;unfold d3_;dsimp only;rw[List.map_map];unfold List.Nodup at hn ⊢;rw[List.pairwise_map] at hn ⊢;refine hn.imp_of_mem fun {a b} ha hb hab=> ?_;dsimp only[Function.comp];by_cases qa:a.1=name
   ·by_cases qb:b.1=name
    ·exact absurd (by rw[qa,qb]) hab
    ·rw[if_pos qa,if_neg qb];exact (hnew b hb).symm
   ·by_cases qb:b.1=name
    ·rw[if_neg qa,if_pos qb];exact hnew a ha
    ·rw[if_neg qa,if_neg qb]; exact hab
 refine vm_ sto (by rw[hids]; exact g.ids) (by unfold d3_; dsimp only; rw[List.length_map]; exact g.few) (fun y hy fs hf=> ?_) (fun y hy=> ?_)
 ·obtain⟨x,hx,⟨q,e⟩ | ⟨q,e⟩⟩:=(hmem y).1 hy
  ·rw[e] at hf ⊢;exact g.info x hx fs ((hfiles _ fs).1 hf)
  ·rw[e] at hf ⊢;dsimp only at hf ⊢;have hf':=(hfiles _ fs).1 hf;have:=g.info x hx fs hf';obtain⟨o1,o2,o3,o4,o5⟩:=(eQ_ (i:=⟨x.1,x.2.kind,x.2.parent,x.2.label,fs⟩) hf'.asc).1 this;dsimp only at o1 o2 o3 o4 o5;refine (eQ_ (i:=⟨to,2,x.2.parent,x.2.label,fs⟩) hf'.asc).2 ⟨w2,⟨(by show (0:Int)≤2; decide),(by show (2:Int)≤2; decide)⟩,o3,fun f hff=> ?_,o5⟩;have:=o4 f hff;rw[hkind x hx q] at this;exact this
 ·have mono:∀ p,fq_ (tJ_ st.snaps) p→fq_ (tJ_ (d3_ st name to).snaps) p:=fun p=>fq_.mono fun z hz hk=>by
   obtain⟨x,hx,e⟩:=jO_.1 hz;have hne:x.1≠name:=fun q=>by
    have:=hkind x hx q;rw[e] at hk;dsimp only at hk;omega
   exact⟨z,jO_.2 ⟨x,(hmem x).2 ⟨x,hx,.inl ⟨hne,rfl⟩⟩,e⟩,rfl,hk,rfl⟩
  obtain⟨x,hx,⟨q,e⟩ | ⟨q,e⟩⟩:=(hmem y).1 hy
  ·rw[e]; exact mono _ (g.hdr his x hx)
  ·rw[e]; exact mono _ (g.hdr his x hx)
section
variable {H:Hp} {Q:Post} {x:Pl} {n:Nat} {cs:List PC} {T:List Pg}
structure Cz_ (T:List Pg) (st:StD):Prop where
 of:ofD T=some st
 good:dD_ st
 infos:cn_ st (aA_ st)
 asc:gC_ (aA_ st)
 from_:bt_ (aA_ st) (aA_ st).length 0=true
 many:eE_ st≤60
 size:(aA_ st).length≤900∧∀ x∈aA_ st,x.name.size≤140737488351232∧x.files.length≤100000∧∀ f∈x.files,f.1.size≤140737488351232
theorem gx_ {st:StD} (h:ofD T=some st):Cz_ T st:=by
 obtain⟨hh,hd,hok⟩:=g6_ h;have hs:dx_ (dT_ T)=some st:=ix_.2 ⟨hd,hok⟩;have g:=dD_.of (hi_ T) hs;have hof:=gP_ (fy_ (hi_ T) hd);have hm:=wj_ hd;have h60:=ie_ T;have sz:=hof.sizes (hV_ hd) (by omega);exact⟨h,g,hof,hof.asc',g.forest hof,by unfold eE_; omega,by have:=sz.1; omega,sz.2⟩
theorem nb_ {H:Hp} {x:Pl} {n:Nat} {ps:KV} (h:TrK H x n ps):∃ cs T,Tr H x n cs T∧ofD T=dx_ ps:=by
 obtain⟨cs,T,h1,h2,h3⟩:=h.ex;refine⟨cs,T,h1,?_⟩;unfold ofD;rw[decide_eq_true h2,h3]
theorem wP_ {st:StD} {k:Nat} {s:ByteArray} {x:SnapR} (hk:k < st.snaps.length) (e:st.snaps[k].1=s) (hmin:∀ j (hj:j < st.snaps.length),j < k→st.snaps[j].1≠s) (hx:look st.snaps s=some x):st.snaps[k].2=x:=by
 unfold look at hx;have hf:st.snaps.find? (fun p=>decide (p.1=s))=some st.snaps[k]:=by
  rw[List.find?_eq_some_iff_getElem];exact⟨by simpa using e,k,hk,rfl,fun j hj=>by simpa using hmin j (by omega) hj⟩
 rw[hf] at hx;exact Option.some.inj hx
theorem gO_ {name path content:ByteArray} (hT:Tr H x n cs T) (hs1:name.size≤140737488351232) (hs2:path.size≤140737488351232)
 (h0:ofD T=none→∀ H',H<+:H'→Q (.tup [.a [.sl none 0 5],.s (.int .i64 2000)]) H')
 (h1:∀ st e,ofD T=some st→d7_ (aA_ st) name path content=e→e≠0→∀ H',H<+:H'→Q (.tup [.a [.sl none 0 5],.s (.int .i64 e)]) H')
 (h2:∀ st y,ofD T=some st→d7_ (aA_ st) name path content=0→look st.snaps name=some y→∀ H' x',H<+:H'→TrK H' x' 48 (fu_ (gq_ (f2_ st y.id path content)))→Q (.tup [.a [.sl x' 48 5],.s (.int .i64 0)]) H'):
 bI_ [.agg [.sl x n 5],.g (.str name),.g (.str path),.g (.str content)] H Q:=by
 refine⟨3,?_⟩;rw[rO_];have etn:∀ k:Nat,tN (k:Int)=k:=fun _=>rfl;refine fU_ hT (fun e H' p hp=> ?_) (fun st e B H' sp a1 n1 a2 n2 a3 n3 hB hR=> ?_)
 ·simp only[aR_,aG_,bP_,gz_,al_,aS_];exact aa_ (fun _=>h0 e H' hp) (fun e=>by cases e)
 ·simp only[aR_,aG_,bP_,gz_,al_,aS_];refine aa_ (fun e=>by cases e) (fun _=> ?_);have K:=gx_ e;have hm:=K.many;unfold eE_ at hm;obtain⟨_,hd,hok⟩:=g6_ e;refine ey_ hR ⟨by omega,by omega,by omega⟩ (n4_ hok) fun G a pG ha=> ?_;simp only[aK_,as_];refine pL_ ha K.asc K.from_ K.size.1 K.size.2 hs1 hs2 fun G1 b1 m1 pG1=> ?_;simp only[aR_,aG_,bP_,as_,ak_,aS_];have hR1:=hR.mono (pG.trans pG1);refine aa_ (fun q=> ?_) (fun q=> ?_)
  ·exact h1 st _ e rfl (by simpa using q) G1 (hB.trans hR1.pre)
  have hw:d7_ (aA_ st) name path content=0:=by simpa using q
  obtain⟨w1,w2,w3,i,hi,hk,hfew⟩:=lJ_ hw;obtain⟨him,hin⟩:=f9_ hi;obtain⟨z,hz,ez,hfz⟩:=K.infos.get him;have hy:look st.snaps name=some z.2:=by
   have:=gv_ K.good.sto.nd.snaps hz;rw[show z.1=name by rw[ez] at hin; exact hin] at this;exact this
  obtain⟨gd,W⟩:=mX_ K.good K.infos (by omega) hw hy;have back:∀ (st1:StD) (G:Hp) (a2:Pl) (n2:Nat) (a3:Pl) (n3:Nat),st1.snaps=st.snaps→st1.links.length≤100→st1.inos.length≤100→f2_ st z.2.id path content=jp_ st1 z.2.id path content→cA_ B G sp a1 n1 a2 n2 a3 n3 st1→bI_.l10 2 name path content none 0 (some (sp,0)) G Q:=by
   intro st1 G a2 n2 a3 n3 hs1 hl1 hi1 hwd hR;rw[bI_.l10_eq];refine kx_ hR (by omega) ?_;obtain⟨fr,hfr⟩:∃ fr,cK_ st1=fr:=⟨_,rfl⟩;rw[hfr];have hst:(⟨st1.snaps,st1.links++[((z.2.id,path),(fr,true))],st1.inos++[(fr,⟨1,content⟩)]⟩:StD)=f2_ st z.2.id path content:=by rw[hwd]; unfold jp_; rw[hfr]
   clear hwd;simp only[aK_,ak_,ah_];obtain⟨g1,g2,g3⟩:=hR.rd;rw[ag_ g3,as_];have hl3:=hR.l3;refine ab_ rfl ?_;refine hR.putI (fr,⟨1,content⟩) (by omega) fun a3' G2 hR2=> ?_;obtain⟨g1,g2,g3⟩:=hR2.rd;rw[ag_ g2,as_,ag_ g1,as_];have hsn:st1.snaps.length≤60:=by rw[hs1]; omega
   refine fz_ hR2 (by dsimp only; omega) (fun k hk ek hmin=> ?_) (fun q=> ?_)
   ·simp only[aK_,ak_];rw[ag_ g1,as_];refine⟨rfl,?_⟩;rw[ag_ g2,as_];refine⟨rfl,?_⟩;have hl1':=hR2.l1;have hl2':=hR2.l2;dsimp only at hl1' hl2' hk ek hmin;refine ab_ rfl (ab_ (by simp<;>omega) ?_);obtain⟨l,e1,r1,r2,_⟩:=hR2.snapG k hk;have hxk:=wP_ (st:=st1) hk ek hmin (by rw[hs1]; exact hy);rw[e1];simp only[ah_,etn,Nat.zero_add,Nat.add_zero];rw[ag_ r2,ak_];dsimp only;rw[hxk];refine ab_ rfl ?_;refine hR2.putL ((z.2.id,path),(fr,true)) (by omega) fun a2' G3 hR3=> ?_;have hR3':cA_ B G3 sp a1 n1 a2' (n2+1) a3' (n3+1) (f2_ st z.2.id path content):=by rw[←hst]; exact hR3
    have hdl:=congrArg (fun s:StD=>s.links.length) hst;have hdi:=congrArg (fun s:StD=>s.inos.length) hst;dsimp only at hdl hdi;rw[List.length_append] at hdl hdi;refine hB_ hR3' gd.sto ⟨?_,?_,?_⟩ (lF_ gd).2.2 fun G4 x' pG4 hT'=> ?_
    ·rw[W.snaps]; omega
    ·rw[←hdl]; simp; omega
    ·rw[←hdi]; simp; omega
    ·simp only[f4_,bA_,as_,b0_];exact h2 st z.2 e hw hy G4 x' (hB.trans pG4) hT'
   ·obtain⟨j,hj,ej⟩:=List.getElem_of_mem hz;have:(z.1)≠name:=by
     have:=q j (by dsimp only; rw[hs1]; exact hj);dsimp only at this;simp only[hs1,ej] at this;exact this
    exact absurd (by rw[ez] at hin; exact hin) this
  refine nR_ hR1 ⟨by omega,by omega⟩ hy ?_;simp only[aK_,ak_];cases hfn:og_ st z.2.id path with
  | none=>
   have hfo:jP_ st z.2.id path= -1:=by unfold jP_; unfold og_ at hfn; rw[hfn]
   rw[hfo];refine aa_ (fun e=>by simp at e) (fun _=> ?_);exact back st G1 a2 n2 a3 n3 rfl (by omega) (by omega) (by unfold f2_; rw[hfn]) hR1
  | some j=>
   have hfo:jP_ st z.2.id path=((j:Nat):Int):=by unfold jP_; unfold og_ at hfn; rw[hfn]
   rw[hfo];obtain⟨hj,ej⟩:=r7_ hfn;refine aa_ (fun _=> ?_) (fun e=>by simp at e<;>omega);refine j1_ hR1 K.good.sto ⟨by omega,by omega⟩ hj fun G2 a2' n2' a3' n3' hR2=> ?_;obtain⟨yy,hyy,eqd⟩:=g5_ K.good.sto hj;refine back (j2_ st j) G2 a2' n2' a3' n3' (by rw[eqd]) ?_ ?_ (by unfold f2_; rw[hfn]) hR2
   ·rw[eqd]; dsimp only; have:=List.length_eraseIdx_le st.links j; omega
   ·rw[eqd]; dsimp only; unfold lu_;refine Nat.le_trans (List.length_filter_le _ _) ?_;unfold f0_;rw[hyy,List.length_map]; omega
end
end Go.Am
end
section
set_option maxRecDepth 100000
namespace Go.Am
theorem map_set {α β:Type} [DecidableEq α] {ps:List (α × β)} (hn:(ps.map (·.1)).Nodup) {k:α} {g:α × β→α × β} {m:Nat} (hm:m < ps.length) (h:ps[m].1=k):(ps.map fun x=>if x.1=k then g x else x)=ps.set m (g ps[m]):=by
 apply List.ext_getElem (by simp);intro j h1 h2;rw[List.getElem_map,List.getElem_set];have hj:j < ps.length:=by simpa using h1
 by_cases e:m=j
 ·subst e;rw[if_pos rfl,if_pos h]
 ·rw[if_neg e,if_neg];intro q;apply e;exact (List.getElem_inj (h₀:=by simpa using hm) (h₁:=by simpa using hj) hn).1 (by rw[List.getElem_map,List.getElem_map,h,q])
section
variable {B H:Hp} {Q:Post} {sp n1 n2 n3:Nat} {a1 a2 a3:Pl} {st:StD}
theorem cA_.updS {lr:Nat} (h:cA_ B H sp (some (lr,0)) n1 a2 n2 a3 n3 st) {m j:Nat} (hm:m < st.snaps.length) (hj:j < 5) {v:GV} {x':ByteArray × SnapR} (hx:(snapC st.snaps[m]).set j v=snapC x') {K:Hp→Prop}
 (hK:∀ G',G'.length=H.length→cA_ B G' sp (some (lr,0)) n1 a2 n2 a3 n3 { st with snaps:=st.snaps.set m x' }→K G'):wr H lr (m*5+j) v K:=by
 obtain⟨t,hr⟩:=h.row;have hsp:=h.spl;have hl1:=h.l1;rcases h.snaps with⟨q,_⟩ | ⟨l,e,hb,hri,hc⟩
 ·cases q
 ·cases e;have hmul:m*5+5≤n1*5:=by omega
  refine c3_ hri (by omega) ?_;have hne:lr≠sp:=fun e=>by rw[e] at hri; rw[hri] at hr; have:=h.s1; exact this (by rw[e])
  have hs:(st.snaps.flatMap snapC).set (m*5+j) v=(st.snaps.set m x').flatMap snapC:=s3_ (f:=snapC) (m:=5) (fun _=>rfl) (j:=j) hj st.snaps m hm hx;have hlt:=(List.getElem?_eq_some_iff.1 hri).1;rw[hs];refine hK _ (by simp) ⟨⟨t,by rw[List.getElem?_set_ne hne]; exact hr⟩,d2_ h.pre hb _,h.base,.inr ⟨lr,rfl,hb,by rw[List.getElem?_set_self hlt],by rw[←hs]; simp [hc]⟩,h.links.set (fun e=>h.d12 lr rfl e) _,h.inos.set (fun e=>h.d13 lr rfl e) _,by simpa using h.l1,h.l2,h.l3,h.d12,h.d13,h.d23,h.s1,h.s2,h.s3⟩
end
section
variable {H:Hp} {Q:Post} {x:Pl} {n:Nat} {cs:List PC} {T:List Pg}
theorem nW_ {name to:ByteArray} (hT:Tr H x n cs T) (hs1:name.size≤140737488351232) (hs2:to.size≤140737488351232)
 (h0:ofD T=none→∀ H',H<+:H'→Q (.tup [.a [.sl none 0 5],.s (.int .i64 2000)]) H')
 (h1:∀ st e,ofD T=some st→d4_ (aA_ st) name to=e→e≠0→∀ H',H<+:H'→Q (.tup [.a [.sl none 0 5],.s (.int .i64 e)]) H')
 (h2:∀ st,ofD T=some st→d4_ (aA_ st) name to=0→∀ H' x',H<+:H'→TrK H' x' 48 (fu_ (gq_ (d3_ st name to)))→Q (.tup [.a [.sl x' 48 5],.s (.int .i64 0)]) H'):
 dG_ [.agg [.sl x n 5],.g (.str name),.g (.str to)] H Q:=by
 refine⟨2,?_⟩;rw[rv_];have etn:∀ k:Nat,tN (k:Int)=k:=fun _=>rfl;refine fU_ hT (fun e H' p hp=> ?_) (fun st e B H' sp a1 n1 a2 n2 a3 n3 hB hR=> ?_)
 ·simp only[aR_,aG_,bP_,gz_,al_,aS_];exact aa_ (fun _=>h0 e H' hp) (fun e=>by cases e)
 ·simp only[aR_,aG_,bP_,gz_,al_,aS_];refine aa_ (fun e=>by cases e) (fun _=> ?_);have K:=gx_ e;have hm:=K.many;unfold eE_ at hm;obtain⟨_,hd,hok⟩:=g6_ e;refine ey_ hR ⟨by omega,by omega,by omega⟩ (n4_ hok) fun G a pG ha=> ?_;simp only[aK_,as_];refine oC_ ha K.asc K.from_ K.size.1 K.size.2 hs1 hs2 fun G1 b1 m1 pG1=> ?_;simp only[aR_,aG_,bP_,as_,ak_,aS_];have hR1:=hR.mono (pG.trans pG1);refine aa_ (fun q=> ?_) (fun q=> ?_)
  ·exact h1 st _ e rfl (by simpa using q) G1 (hB.trans hR1.pre)
  have hw:d4_ (aA_ st) name to=0:=by simpa using q
  obtain⟨w1,w2,⟨i,hi,hk⟩,hto⟩:=rX_ hw;obtain⟨him,hin⟩:=f9_ hi;obtain⟨z,hz,ez,hfz⟩:=K.infos.get him;have hz1:z.1=name:=by rw[ez] at hin; exact hin
  have gd:=v9_ K.good K.infos hw;refine fz_ hR1 (by omega) (fun k hk ek hmin=> ?_) (fun q=> ?_)
  ·simp only[aK_,ak_,ah_];obtain⟨g1,g2,g3⟩:=hR1.rd;rw[ag_ g1,as_];have hl1:=hR1.l1;refine ab_ rfl (ab_ (by simp<;>omega) ?_);obtain⟨l,e1,r1,r2,r3,r4,r5⟩:=hR1.snapG k hk;subst e1;simp only[ah_,etn,Nat.zero_add];refine hR1.updS (j:=0) hk (by omega) (x':=(to,st.snaps[k].2)) rfl fun G2 hG2 hR2=> ?_;obtain⟨g1,g2,g3⟩:=hR2.rd;rw[Nat.add_zero] at g1;rw[ag_ g1,as_];refine ab_ rfl (ab_ (by simp<;>omega) ?_);simp only[ah_,etn,Nat.zero_add];have hk2:k < (st.snaps.set k (to,st.snaps[k].2)).length:=by rw[List.length_set]; exact hk
   have hgk:(st.snaps.set k (to,st.snaps[k].2))[k]=(to,st.snaps[k].2):=List.getElem_set_self hk2;refine hR2.updS (j:=2) hk2 (by omega) (x':=(to,⟨st.snaps[k].2.id,2,st.snaps[k].2.parent,st.snaps[k].2.label⟩)) (by dsimp only; rw[hgk]; rfl) fun G3 hG3 hR3=> ?_;have hst:(⟨(st.snaps.set k (to,st.snaps[k].2)).set k (to,⟨st.snaps[k].2.id,2,st.snaps[k].2.parent,st.snaps[k].2.label⟩),st.links,st.inos⟩:StD)=d3_ st name to:=by
    unfold d3_;rw[map_set (g:=fun x=>(to,(⟨x.2.id,2,x.2.parent,x.2.label⟩:SnapR))) K.good.sto.nd.snaps hk ek,List.set_set]
   have hR3':cA_ B G3 sp (some (l,0)) n1 a2 n2 a3 n3 (d3_ st name to):=by rw[←hst]; exact hR3
   refine hB_ hR3' gd.sto ⟨?_,?_,?_⟩ (lF_ gd).2.2 fun G4 x' pG4 hT'=> ?_
   ·unfold d3_; dsimp only; rw[List.length_map]; omega
   ·unfold d3_; dsimp only; omega
   ·unfold d3_; dsimp only; omega
   ·simp only[f4_,bA_,as_,b0_];exact h2 st e hw G4 x' (hB.trans pG4) hT'
  ·obtain⟨j,hj,ej⟩:=List.getElem_of_mem hz;have:=q j hj;rw[ej] at this;exact absurd hz1 this
theorem As_ {st:StD} {id frm:Int} {l:LKey × LVal} {y:InoR} (e:l.1.1=frm) (hy:look st.inos l.2.1=some y):gH_ id frm st l=⟨st.snaps,st.links++[((id,l.1.2),(l.2.1,false))],f0_ st.inos l.2.1 ⟨y.links+1,y.content⟩⟩:=by
 unfold gH_;rw[decide_eq_true e];dsimp only;rw[hy]
theorem Ap_ {st:StD} {id frm:Int} {l:LKey × LVal} (e: ¬ l.1.1=frm):gH_ id frm st l=st:=by
 unfold gH_;rw[decide_eq_false e]
theorem ig_ {name parent:ByteArray} {kind:Int} (hT:Tr H x n cs T) (hs1:name.size≤140737488351232) (hs2:parent.size≤140737488351232)
 (h0:ofD T=none→∀ H',H<+:H'→Q (.tup [.a [.sl none 0 5],.s (.int .i64 2000)]) H')
 (h1:∀ st e,ofD T=some st→ga_ (aA_ st) name parent kind=e→e≠0→∀ H',H<+:H'→Q (.tup [.a [.sl none 0 5],.s (.int .i64 e)]) H')
 (h2:∀ st,ofD T=some st→ga_ (aA_ st) name parent kind=0→∀ H' x',H<+:H'→TrK H' x' 48 (fu_ (gq_ (dk_ st name parent kind)))→Q (.tup [.a [.sl x' 48 5],.s (.int .i64 0)]) H'):
 aX_ [.agg [.sl x n 5],.g (.str name),.g (.str parent),.g (.int .i64 kind)] H Q:=by
 refine⟨100,?_⟩;rw[oV_];have etn:∀ k:Nat,tN (k:Int)=k:=fun _=>rfl;refine fU_ hT (fun e H' p hp=> ?_) (fun st e B H' sp a1 n1 a2 n2 a3 n3 hB hR=> ?_)
 ·simp only[aR_,aG_,bP_,gz_,al_,aS_];exact aa_ (fun _=>h0 e H' hp) (fun e=>by cases e)
 ·simp only[aR_,aG_,bP_,gz_,al_,aS_];refine aa_ (fun e=>by cases e) (fun _=> ?_);have K:=gx_ e;have hm:=K.many;have hm':=hm;unfold eE_ at hm;obtain⟨_,hd,hok⟩:=g6_ e;refine ey_ hR ⟨by omega,by omega,by omega⟩ (n4_ hok) fun G a pG ha=> ?_;simp only[aK_,as_];refine mR_ ha K.asc K.from_ K.size.1 K.size.2 hs1 hs2 fun G1 b1 m1 pG1=> ?_;simp only[aR_,aG_,bP_,as_,ak_,aS_];have hR1:=hR.mono (pG.trans pG1);refine aa_ (fun q=> ?_) (fun q=> ?_)
  ·exact h1 st _ e rfl (by simpa using q) G1 (hB.trans hR1.pre)
  have hw:ga_ (aA_ st) name parent kind=0:=by simpa using q
  obtain⟨w1,w2,w3,w4,w5,w6⟩:=tF_ hw;have P:=op_ K.good hm' K.infos hw;have gd:=P.good;obtain⟨⟨k1,k2⟩,k3,k4⟩:=qh_ (st:=st) (by omega);refine oh_ hR1 ⟨by omega,by omega⟩ ?_;simp only[aK_,ak_];obtain⟨frm0,ls0,KK,_⟩:=sy_ K.good.sto hm' parent;have hks:=KK.snaps;have hpd:dk_ st name parent kind=⟨(os_ st parent).snaps++[(name,⟨da_ st,kind,parent,mkS []⟩)],(os_ st parent).links,(os_ st parent).inos⟩:=rfl;have hkl:(os_ st parent).links.length≤200∧(os_ st parent).inos.length≤100:=by
   obtain⟨frm,ls,KK,hls⟩:=sy_ K.good.sto hm' parent;have h1:=KK.len;have h2:=KK.nos;have:ls.length≤60:=by
    rcases hls with q | ⟨_,q,_⟩
    ·rw[q]; simp
    ·rw[q]; omega
   omega
  obtain⟨fid,hfid⟩:∃ fid,da_ st=fid:=⟨_,rfl⟩;rw[hfid] at k1 k2 k3 k4 hpd ⊢;generalize hkid:os_ st parent=S at hpd hkl hks;have l18:∀ (F:Nat) (G:Hp) (a2:Pl) (n2:Nat) (a3:Pl) (n3:Nat),cA_ B G sp a1 n1 a2 n2 a3 n3 S→aX_.l18 (F+1) name parent kind none 0 (some (sp,0)) fid G Q:=by
   intro F G a2 n2 a3 n3 hR;rw[aX_.l18_eq];obtain⟨g1,g2,g3⟩:=hR.rd;simp only[ah_];rw[ag_ g1,as_];have hl1:=hR.l1;refine ab_ rfl ?_;refine hR.putS (name,⟨fid,kind,parent,mkS []⟩) (by rw[hl1,hks]; omega) fun a1' G2 hR2=> ?_;have hR2':cA_ B G2 sp a1' (n1+1) a2 n2 a3 n3 (dk_ st name parent kind):=by rw[hpd]; exact hR2
   refine hB_ hR2' gd.sto ⟨?_,?_,?_⟩ (lF_ gd).2.2 fun G4 x' pG4 hT'=> ?_
   ·rw[P.snaps,List.length_append]; simp; omega
   ·rw[hpd]; dsimp only; omega
   ·rw[hpd]; dsimp only; omega
   ·simp only[f4_,bA_,as_,b0_];exact h2 st e hw G4 x' (hB.trans pG4) hT'
  refine aa_ (fun e=> ?_) (fun e=> ?_)
  ·have hne: ¬ parent=mkS []:=by simpa using e
   simp only[ah_];obtain⟨g1,g2,g3⟩:=hR1.rd;rw[ag_ g1,as_];have hl1:=hR1.l1;have hl2:=hR1.l2;have hpar:∃ y,look st.snaps parent=some y:=by
    unfold iP_ at w5;rw[decide_eq_false hne,Bool.false_or] at w5;cases hf:cv_ (aA_ st) parent with
    | none=>rw[hf] at w5; cases w5
    | some i=>
     obtain⟨him,hin⟩:=f9_ hf;obtain⟨z,hz,ez,_⟩:=K.infos.get him;refine⟨z.2,?_⟩;have:=gv_ K.good.sto.nd.snaps hz;rw[show z.1=parent by rw[ez] at hin; exact hin] at this;exact this
   obtain⟨px,hpx⟩:=hpar;have hS:S=st.links.foldl (gH_ fid px.id) st:=by
    rw[←hkid,←hfid];unfold os_;rw[decide_eq_false hne];dsimp only;rw[hpx]
   refine fz_ hR1 (by omega) (fun k hk ek hmin=> ?_) (fun q=> ?_)
   ·simp only[aK_,ak_];rw[ag_ g1,as_];refine⟨rfl,ab_ rfl (ab_ (by simp<;>omega) ?_)⟩;obtain⟨l,e1,r1,r2,_⟩:=hR1.snapG k hk;have hxk:=wP_ (st:=st) hk ek hmin hpx;rw[e1];simp only[ah_,etn,Nat.zero_add,Nat.add_zero];rw[ag_ r2,ak_,hxk];have g2':gt G1 sp 1=some (.sl a2 n2 4):=by simpa using g2
    rw[ag_ g2',as_];have l12:∀ (f i F:Nat) (G:Hp) (a2:Pl) (n2':Nat) (a3:Pl) (n3':Nat),f=st.links.length - i→i≤st.links.length→f+2≤F→Kid st fid px.id (st.links.take i) ((st.links.take i).foldl (gH_ fid px.id) st)→st.links<+:((st.links.take i).foldl (gH_ fid px.id) st).links→cA_ B G sp a1 n1 a2 n2' a3 n3' ((st.links.take i).foldl (gH_ fid px.id) st)→
     aX_.l12 F name parent kind none 0 (some (sp,0)) fid px.id ((st.links.length:Nat):Int) ((i:Nat):Int) G Q:=by
     intro f;induction f with
     | zero=>
      intro i F G a2 n2' a3 n3' hf hi hF hK hpre hR;obtain⟨F,rfl⟩:∃ G,F=G+1+1:=⟨F - 2,by omega⟩;rw[aX_.l12_eq];refine aa_ (fun e=>by simp at e<;>omega) (fun _=> ?_);rw[List.take_of_length_le (by omega),←hS] at hR;exact l18 F G a2 n2' a3 n3' hR
     | succ f ih=>
      intro i F G a2 n2' a3 n3' hf hi hF hK hpre hR;have hil:i < st.links.length:=by omega
      obtain⟨F,rfl⟩:∃ G,F=G+1:=⟨F - 1,by omega⟩;have hfold:(st.links.take (i+1)).foldl (gH_ fid px.id) st=gH_ fid px.id ((st.links.take i).foldl (gH_ fid px.id) st) st.links[i]:=by
       rw[List.take_add_one,List.getElem?_eq_getElem hil,Option.toList_some,List.foldl_append]; rfl
      generalize hS1:(st.links.take i).foldl (gH_ fid px.id) st=S1 at hK hpre hR hfold;have hnd:∀ m∈st.links.take i,m.1≠st.links[i].1:=fun m hm q=>by
       obtain⟨j,hj,rfl⟩:=List.getElem_of_mem hm;rw[List.getElem_take] at q;have hj':j < i:=by rw[List.length_take] at hj; omega
       have:=(List.getElem_inj (h₀:=by rw[List.length_map]; omega) (h₁:=by rw[List.length_map]; omega) K.good.sto.nd.links).1 (show (st.links.map (·.1))[j]'(by rw[List.length_map]; omega)=(st.links.map (·.1))[i]'(by rw[List.length_map]; omega) by rw[List.getElem_map,List.getElem_map]; exact q);omega
      have hstep:=v0_ K.good.sto k1 k2 k4 (by omega) (ls:=st.links.take i) (l:=st.links[i]) (List.getElem_mem hil) (fun m hm=>List.mem_of_mem_take hm) hnd (by rw[List.length_take]; omega) hK;have htk:st.links.take i++[st.links[i]]=st.links.take (i+1):=by rw[List.take_add_one,List.getElem?_eq_getElem hil]; rfl
      rw[htk] at hstep;have hlen1:=hK.len;rw[List.length_take] at hlen1;have hno1:=hK.nos;have hil1:i < S1.links.length:=by have:=hpre.length_le; omega
      have hli:S1.links[i]=st.links[i]:=by
       obtain⟨r,hr⟩:=hpre;have:S1.links[i]? =st.links[i]? :=by rw[←hr,List.getElem?_append_left hil]
       rw[List.getElem?_eq_getElem hil1,List.getElem?_eq_getElem hil] at this;exact Option.some.inj this
      have hl2':=hR.l2;rw[aX_.l12_eq];refine aa_ (fun _=> ?_) (fun e=>by simp at e<;>omega);obtain⟨g1,g2,g3⟩:=hR.rd;simp only[ah_];rw[ag_ g2,as_];refine ab_ rfl (ab_ (by simp<;>omega) ?_);obtain⟨lk,e2,q1,q2,q3,q4,_⟩:=hR.linkG i hil1;rw[hli] at q1 q2 q3 q4;rw[e2];simp only[ah_,etn,Nat.zero_add];rw[ag_ q1,ak_,ag_ q2,aB_,ag_ q3,ak_,ag_ q4,al_];have w1:ad_ .i64 (((i:Nat):Int)+1)=((i+1:Nat):Int):=ar_ (by omega);refine aa_ (fun e=> ?_) (fun e=> ?_)
      ·have e':st.links[i].1.1=px.id:=by simpa using e
       obtain⟨y0,_,hy0,_⟩:=K.good.sto.ino (List.getElem_mem hil);obtain⟨y,hym⟩:=(hK.text st.links[i].2.1).2 ⟨y0,hy0⟩;have hy:=(df_ hK.sto.nd.inos).2 hym;have heq:=As_ (id:=fid) (frm:=px.id) e' hy;rw[ag_ (show gt G sp 1=some (.sl a2 n2' 4) by simpa using g2),as_];refine ab_ rfl ?_;refine hR.putL ((fid,st.links[i].1.2),(st.links[i].2.1,false)) (by omega) fun a2' G2 hR2=> ?_;obtain⟨g1',g2',g3'⟩:=hR2.rd;rw[ag_ (show gt G2 sp 2=some (.sl a3 n3' 3) by simpa using g3'),as_];refine ex_ hR2 (by dsimp only; omega) ?_;simp only[aK_,ak_];obtain⟨mm,hmm,em,ey⟩:=qb_ hy;rw[em,ag_ (show gt G2 sp 2=some (.sl a3 n3' 3) by simpa using g3'),as_];have hl3':=hR2.l3;dsimp only at hl3';refine⟨rfl,ab_ rfl (ab_ (by simp<;>omega) ?_)⟩;obtain⟨lr,e3,z1,z2,z3⟩:=hR2.inoG mm hmm;subst e3;simp only[ah_,etn,Nat.zero_add,Nat.add_zero];rw[ag_ z2,ak_];refine ab_ rfl (ab_ (by simp<;>omega) ?_);have hcy:=(dv_.1 hK.sto.lk).2 _ hym;dsimp only at hcy;have hcl:eD_ S1 st.links[i].2.1≤S1.links.length:=List.countP_le_length;rw[ey];dsimp only;rw[cJ_ (n:=y.links+1) (by omega) (by omega)];refine hR2.updI hmm _ fun G3 hG3 hR3=> ?_;rw[w1];have hfin:(⟨S1.snaps,S1.links++[((fid,st.links[i].1.2),(st.links[i].2.1,false))],S1.inos.set mm (S1.inos[mm].1,⟨y.links+1,S1.inos[mm].2.content⟩)⟩:StD)=gH_ fid px.id S1 st.links[i]:=by
        rw[heq,th_ hK.sto.nd.inos hmm ey,ey]
       have hR3':cA_ B G3 sp a1 n1 a2' (n2'+1) (some (lr,0)) n3' (gH_ fid px.id S1 st.links[i]):=by rw[←hfin]; exact hR3
       refine ih (i+1) F G3 a2' _ _ n3' (by omega) hil (by omega) (by rw[hfold]; exact hstep) ?_ (by rw[hfold]; exact hR3');rw[hfold,heq];exact hpre.trans (List.prefix_append _ _)
      ·have e': ¬ st.links[i].1.1=px.id:=by simpa using e
       have heq:=Ap_ (id:=fid) (frm:=px.id) (st:=S1) e';rw[heq] at hfold hstep;rw[w1];exact ih (i+1) F G a2 n2' a3 n3' (by omega) hil (by omega) (by rw[hfold]; exact hstep) (by rw[hfold]; exact hpre) (by rw[hfold]; exact hR)
    rw[hl2];refine l12 _ 0 99 G1 a2 n2 a3 n3 rfl (Nat.zero_le _) (by omega) ?_ (List.prefix_refl _) hR1;exact⟨K.good.sto,rfl,by simp,rfl,fun l=>by simp,fun k=>Iff.rfl,fun k y y' g1 g2=>by
     have e1:=(df_ K.good.sto.nd.inos).2 g1;have e2:=(df_ K.good.sto.nd.inos).2 g2;rw[e1] at e2; rw[Option.some.inj e2]⟩
   ·obtain⟨j,hj,ej⟩:=List.getElem_of_mem (dl_ hpx);have:=q j hj;rw[ej] at this;exact absurd rfl this
  ·have hpe:parent=mkS []:=by simpa using e
   have hS:S=st:=by rw[←hkid]; unfold os_; rw[decide_eq_true hpe]
   rw[←hS] at hR1;exact l18 98 G1 a2 n2 a3 n3 hR1
end
end Go.Am
end
section
namespace Go.Am
def uk_ (kv:KV) (name parent:ByteArray) (kind:Int):Option KV:=match dx_ kv with
 | none=>none
 | some st=>match ga_ (aA_ st) name parent kind==0 with | true=>some (fu_ (gq_ (dk_ st name parent kind))) | false=>none
def ph_ (kv:KV) (name path content:ByteArray):Option KV:=match dx_ kv with
 | none=>none
 | some st=>match d7_ (aA_ st) name path content==0 with
  | true=>(match look st.snaps name with | some y=>some (fu_ (gq_ (f2_ st y.id path content))) | none=>none)
  | false=>none
def rD_ (kv:KV) (name to:ByteArray):Option KV:=match dx_ kv with
 | none=>none
 | some st=>match d4_ (aA_ st) name to==0 with | true=>some (fu_ (gq_ (d3_ st name to))) | false=>none
def ik_ (o:Option StD) (s:ByteArray):Nat × Nat × Int:=match o with
 | none=>(0,0,2000)
 | some st=>match bm_ s 4 with
  | false=>(0,0,1901)
  | true=>match cv_ (aA_ st) s with
   | none=>(0,0,1903)
   | some i=>(d5_ i.files,e0_ i.files,0)
theorem i8_ (T:List Pg) (s:ByteArray):c2_ T s=ik_ (ofD T) s:=rfl
def sW:ByteArray:=mkS [119]
def yM_:ByteArray:=mkS [98,97,115,101]
def ut_:ByteArray:=mkS [119,111,114,107]
def DL_:Option KV:=uk_ [] sW (mkS []) 0
def DI_:Option KV:=DL_.bind fun k=>ph_ k sW (mkS [97]) (mkS [111,110,101])
def DJ_:Option KV:=DI_.bind fun k=>rD_ k sW yM_
def DN_:Option KV:=DJ_.bind fun k=>uk_ k ut_ yM_ 0
def CU_:Option KV:=DN_.bind fun k=>ph_ k ut_ (mkS [98]) (mkS [116,119,111])
set_option maxRecDepth 1000000 in
theorem Ch_:(CU_.isSome&&match CU_.bind dx_ with
 | some st=>(ik_ (some st) ut_==(1,3,0))&&((aA_ st).length==2)&&(ik_ (some st) (mkS [110,111,110,101])==(0,0,1903))&&(ik_ (some st) (mkS [])==(0,0,1901))
 | none=>false)=true:=by decide+kernel
end Go.Am
end
section
set_option maxRecDepth 100000
namespace Go.Am
section
variable {H:Hp} {Q:Post} {x:Pl} {n:Nat} {kv kv':KV}
theorem uL_ {name parent:ByteArray} {kind:Int} (h:TrK H x n kv) (e:uk_ kv name parent kind=some kv') (hs1:name.size≤140737488351232) (hs2:parent.size≤140737488351232)
 (hQ:∀ H' x',H<+:H'→TrK H' x' 48 kv'→Q (.tup [.a [.sl x' 48 5],.s (.int .i64 0)]) H'):aX_ [.agg [.sl x n 5],.g (.str name),.g (.str parent),.g (.int .i64 kind)] H Q:=by
 obtain⟨cs,T,hT,ho⟩:=nb_ h;unfold uk_ at e;cases hs:dx_ kv with
 | none=>rw[hs] at e; cases e
 | some st=>
  rw[hs] at e ho;dsimp only at e;cases hp:ga_ (aA_ st) name parent kind==0 with
  | false=>rw[hp] at e; cases e
  | true=>
   rw[hp] at e;have hp':ga_ (aA_ st) name parent kind=0:=by simpa using hp
   cases e;refine ig_ hT hs1 hs2 (fun q=> ?_) (fun st' e' q1 q2 q3=> ?_) (fun st' q1 q2 H' x' p t=> ?_)
   ·rw[ho] at q; cases q
   ·rw[ho] at q1; cases q1; exact absurd (by rw[←q2,hp']) q3
   ·rw[ho] at q1; cases q1; exact hQ H' x' p t
theorem tk_ {name path content:ByteArray} (h:TrK H x n kv) (e:ph_ kv name path content=some kv') (hs1:name.size≤140737488351232) (hs2:path.size≤140737488351232)
 (hQ:∀ H' x',H<+:H'→TrK H' x' 48 kv'→Q (.tup [.a [.sl x' 48 5],.s (.int .i64 0)]) H'):bI_ [.agg [.sl x n 5],.g (.str name),.g (.str path),.g (.str content)] H Q:=by
 obtain⟨cs,T,hT,ho⟩:=nb_ h;unfold ph_ at e;cases hs:dx_ kv with
 | none=>rw[hs] at e; cases e
 | some st=>
  rw[hs] at e ho;dsimp only at e;cases hp:d7_ (aA_ st) name path content==0 with
  | false=>rw[hp] at e; cases e
  | true=>
   rw[hp] at e;dsimp only at e;have hp':d7_ (aA_ st) name path content=0:=by simpa using hp
   cases hl:look st.snaps name with
   | none=>rw[hl] at e; cases e
   | some y=>
    rw[hl] at e;cases e;refine gO_ hT hs1 hs2 (fun q=> ?_) (fun st' e' q1 q2 q3=> ?_) (fun st' y' q1 q2 q3 H' x' p t=> ?_)
    ·rw[ho] at q; cases q
    ·rw[ho] at q1; cases q1; exact absurd (by rw[←q2,hp']) q3
    ·rw[ho] at q1; cases q1;rw[hl] at q3; cases q3;exact hQ H' x' p t
theorem w6_ {name to:ByteArray} (h:TrK H x n kv) (e:rD_ kv name to=some kv') (hs1:name.size≤140737488351232) (hs2:to.size≤140737488351232)
 (hQ:∀ H' x',H<+:H'→TrK H' x' 48 kv'→Q (.tup [.a [.sl x' 48 5],.s (.int .i64 0)]) H'):dG_ [.agg [.sl x n 5],.g (.str name),.g (.str to)] H Q:=by
 obtain⟨cs,T,hT,ho⟩:=nb_ h;unfold rD_ at e;cases hs:dx_ kv with
 | none=>rw[hs] at e; cases e
 | some st=>
  rw[hs] at e ho;dsimp only at e;cases hp:d4_ (aA_ st) name to==0 with
  | false=>rw[hp] at e; cases e
  | true=>
   rw[hp] at e;have hp':d4_ (aA_ st) name to=0:=by simpa using hp
   cases e;refine nW_ hT hs1 hs2 (fun q=> ?_) (fun st' e' q1 q2 q3=> ?_) (fun st' q1 q2 H' x' p t=> ?_)
   ·rw[ho] at q; cases q
   ·rw[ho] at q1; cases q1; exact absurd (by rw[←q2,hp']) q3
   ·rw[ho] at q1; cases q1; exact hQ H' x' p t
theorem Bm_:∃ k1 k2 k3 k4 k5 st,uk_ [] sW (mkS []) 0=some k1∧ph_ k1 sW (mkS [97]) (mkS [111,110,101])=some k2∧rD_ k2 sW yM_=some k3∧uk_ k3 ut_ yM_ 0=some k4∧ph_ k4 ut_ (mkS [98]) (mkS [116,119,111])=some k5∧dx_ k5=some st∧
 ik_ (some st) ut_=(1,3,0)∧(aA_ st).length=2∧ik_ (some st) (mkS [110,111,110,101])=(0,0,1903)∧ik_ (some st) (mkS [])=(0,0,1901):=by
 have h:=Ch_;rw[Bool.and_eq_true] at h;obtain⟨h1,h2⟩:=h;obtain⟨k5,e5⟩:=Option.isSome_iff_exists.1 h1;rw[e5] at h2;have e5':=e5;unfold CU_ at e5';obtain⟨k4,e4,e5'⟩:=Option.bind_eq_some_iff.1 e5';unfold DN_ at e4;obtain⟨k3,e3,e4⟩:=Option.bind_eq_some_iff.1 e4;unfold DJ_ at e3;obtain⟨k2,e2,e3⟩:=Option.bind_eq_some_iff.1 e3;unfold DI_ at e2;obtain⟨k1,e1,e2⟩:=Option.bind_eq_some_iff.1 e2;unfold DL_ at e1;rw[Option.bind_some] at h2;cases hs:dx_ k5 with
 | none=>rw[hs] at h2; cases h2
 | some st=>
  rw[hs] at h2;simp only[Bool.and_eq_true,beq_iff_eq] at h2;exact⟨k1,k2,k3,k4,k5,st,e1,e2,e3,e4,e5',hs,h2.1.1.1,h2.1.1.2,h2.1.2,h2.2⟩
theorem BH_ (H:Hp):Tr H none 0 [] []:=⟨rfl,rfl,rfl,fun i h=>by cases h⟩
theorem A1_:ofD []=none:=by
 have:decide (0 < aU_ [])=false:=by decide+kernel
 unfold ofD;rw[this]
theorem fB_ {E:Nat→Sm} (hQ:∀ H',H<+:H'→Q (.g (.bool true)) H'):cr_ E [] H Q:=by
 obtain⟨k1,k2,k3,k4,k5,st,e1,e2,e3,e4,e5,e6,u1,u2,u3,u4⟩:=Bm_;refine⟨1,?_⟩;rw[sh_];have sz:∀ l:List UInt8,l.length≤100→(mkS l).size≤140737488351232:=fun l h=>by rw[c5_]; omega
 refine⟨1,?_⟩;rw[ro_];refine iJ_ fun H1 p1 o1=> ?_;simp only[f4_,bA_,as_,b0_];have T0:TrK H1 (some (H.length,0)) 48 []:=⟨qj_,jR_,o1.tr,by rw[Cm_]; omega,yB_⟩;refine uL_ T0 e1 (sz _ (by decide)) (sz _ (by decide)) fun H2 x2 p2 t2=> ?_;simp only[aR_,aG_,gB_,bA_,as_,b0_,bP_,ak_,aS_];refine tk_ t2 e2 (sz _ (by decide)) (sz _ (by decide)) fun H3 x3 p3 t3=> ?_;simp only[aR_,aG_,gB_,bA_,as_,b0_,bP_,ak_,aS_];refine w6_ t3 e3 (sz _ (by decide)) (sz _ (by decide)) fun H4 x4 p4 t4=> ?_;simp only[aR_,aG_,gB_,bA_,as_,b0_,bP_,ak_,aS_];refine uL_ t4 e4 (sz _ (by decide)) (sz _ (by decide)) fun H5 x5 p5 t5=> ?_;simp only[aR_,aG_,gB_,bA_,as_,b0_,bP_,ak_,aS_];refine tk_ t5 e5 (sz _ (by decide)) (sz _ (by decide)) fun H6 x6 p6 t6=> ?_;simp only[aR_,aG_,gB_,bA_,as_,b0_,bP_,ak_,aS_,f4_];obtain⟨cs,T,hT,ho⟩:=nb_ t6;rw[e6] at ho;have hu:∀ s,c2_ T s=ik_ (some st) s:=fun s=>by rw[i8_,ho]
 have pp:H<+:H6:=p1.trans (p2.trans (p3.trans (p4.trans (p5.trans p6))));refine cu_ hT (sz _ (by decide)) fun H7 p7=> ?_;rw[hu,show ik_ (some st) (mkS [119,111,114,107])=(1,3,0) from u1];simp only[aR_,aG_,bP_,ak_,aS_];refine d9_ (hT.mono p7) (fun q=>by rw[ho] at q; cases q) (fun st' q H8 b a p8 hb hi=> ?_);rw[ho] at q;cases q;simp only[aR_,aG_,bP_,as_,ak_,aS_];refine cu_ (hT.mono (p7.trans p8)) (sz _ (by decide)) fun H9 p9=> ?_;rw[hu,u3];simp only[aR_,aG_,bP_,ak_,aS_];refine cu_ (hT.mono (p7.trans (p8.trans p9))) (sz _ (by decide)) fun H10 p10=> ?_;rw[hu,u4];simp only[aR_,aG_,bP_,ak_,aS_];refine d9_ (BH_ H10) (fun _ H11 p11=> ?_) (fun st' q=>by rw[A1_] at q; cases q);simp only[aR_,aG_,bP_,as_,ak_,aS_];have fin:=hQ H11 (pp.trans (p7.trans (p8.trans (p9.trans (p10.trans p11)))));refine aa_ (fun _=> ?_) (fun e=>by cases e);refine aa_ (fun _=> ?_) (fun e=>by cases e);refine bC_ ?_;simp only[aK_,ak_];refine aa_ (fun _=> ?_) (fun e=>by cases e);rw[u2];refine aa_ (fun _=> ?_) (fun e=>by cases e);refine bC_ ?_;simp only[aK_,ak_];refine aa_ (fun _=> ?_) (fun e=>by cases e);refine bC_ ?_;simp only[aK_,ak_];refine aa_ (fun _=> ?_) (fun e=>by cases e);refine bC_ ?_;simp only[aK_,ak_];refine aa_ (fun _=> ?_) (fun e=>by cases e);refine bC_ ?_;simp only[aK_,ak_];exact fin
end
end Go.Am
end
section
set_option maxRecDepth 100000
namespace Go.Am
def law23_UsagesN:Sm:=fH_ aI_
theorem pa_:ay_ Go.Proofs.Tryz.prog 3 law23_UsagesN:=q0_ aI_ (ap_ _)
def law23_UsageWritesN:Sm:=dr_ aI_
theorem kv_:ay_ Go.Proofs.Tryz.prog 4 law23_UsageWritesN:=k6_ aI_ (ap_ _)
def law23_UsageChildN:Sm:=dV_ aI_
theorem ky_:ay_ Go.Proofs.Tryz.prog 5 law23_UsageChildN:=lZ_ aI_ (ap_ _)
def law23_UsageAllN:Sm:=aY_ aI_
theorem nu_:ay_ Go.Proofs.Tryz.prog 6 law23_UsageAllN:=oM_ aI_ (ap_ _)
section
variable {H:Hp} {Q:Post} {x:Pl} {n:Nat} {cs:List PC} {T:List Pg}
theorem nh_ {name:ByteArray} (hT:Tr H x n cs T) (hn:n*80≤140737488351232) (hs:name.size≤140737488351232) (hQ:∀ H',Q (.g (.bool true)) H'):law23_UsagesN [.agg [.sl x n 5],.g (.str name)] H Q:=by
 refine⟨1,?_⟩;rw[q4_];refine py_ hT hn fun a' ds H1 C=> ?_;simp only[f4_,bA_,as_,b0_];have p1:=C.pre;have hC:=C.ot.tr;refine cu_ hC hs fun H2 p2=> ?_;simp only[aR_,aG_,bP_,ak_,aS_];refine p9_ (hT.mono (p1.trans p2)) hs fun H3 p3=> ?_;simp only[aR_,aG_,bP_,ak_,aS_];have hT3:=hT.mono (p1.trans (p2.trans p3));have hC3:=hC.mono (p2.trans p3);have fin:∀ G,H3<+:G→cl bL_ [(.agg [(.sl a' n 5)]),(.agg [(.sl x n 5)])] G fun r75 H76=>
  rG r75 fun v77=>
  dB v77 fun b78=>
  af_ b78
  (cl (cr_ aI_) [] H76 fun r79 H80=>
   rG r79 fun v81=>
   dB v81 fun b82=>
   Q (.g (.bool b82)) H80)
  (Q (.g (.bool false)) H76):=fun G hG=>by
  refine mC_ (hC3.mono hG) (hT3.mono hG) (by omega) fun b hb=> ?_;rw[hb.2 rfl];simp only[aK_,al_];rw[aQ_ rfl];refine fB_ fun H' _=> ?_;simp only[aK_,al_];exact hQ H'
 have same:(!(eqI (((c2_ T name).1:Nat):Int) (((c2_ T name).1:Nat):Int)))=false:=by simp
 have same2:(!(eqI (((c2_ T name).2.1:Nat):Int) (((c2_ T name).2.1:Nat):Int)))=false:=by simp
 have same3:(!(eqI (c2_ T name).2.2 (c2_ T name).2.2))=false:=by simp
 refine d9_ hC3 (fun e H4 p4=> ?_) (fun st e H4 b4 a4 p4 hb4 hi4=> ?_)
 ·simp only[aR_,aG_,bP_,as_,ak_,aS_];refine gL_ (hT3.mono p4) (fun _ H5 p5=> ?_) (fun st e'=>by rw[e] at e'; cases e');simp only[aR_,aG_,bP_,as_,ak_,aS_];rw[aL_ same,aL_ same2];refine bC_ ?_;simp only[aK_,ak_];rw[aL_ same3];refine hI_ (is:=[]) (fun i hi=>by cases hi) (fun i hi=>by cases hi) (by simp) (by simp) ?_;simp only[aK_,al_];rw[aL_ (show (!true)=false from rfl)];refine bC_ ?_;simp only[aK_,ak_];rw[aL_ (by decide)];refine g2_ (b:=H5.length) (is:=[]) (.inl ⟨rfl,rfl⟩) (by simp) (by simp) fun H6 l6 k6=> ?_;exact fin H6 (gy_ (p4.trans p5) l6 fun l hl=>k6 l (by have:=(p4.trans p5).length_le; omega))
 ·simp only[aR_,aG_,bP_,as_,ak_,aS_];refine gL_ (hT3.mono p4) (fun e'=>by rw[e] at e'; cases e') (fun st' e' H5 b5 a5 p5 hb5 hi5=> ?_);rw[e] at e';cases e';simp only[aR_,aG_,bP_,as_,ak_,aS_];rw[aL_ same,aL_ same2];refine bC_ ?_;simp only[aK_,ak_];rw[aL_ same3];have K:=gx_ e;have hfl:∀ i∈aA_ st,i.files.length≤100000:=fun i hi=>(K.size.2 i hi).2.1;refine hI_ (hi4.rd.pre p5) hi5.rd (by have:=K.size.1; omega) hfl ?_;simp only[aK_,al_];rw[aL_ (show (!true)=false from rfl)];refine bC_ ?_;simp only[aK_,ak_];rw[aL_ (by decide)];refine g2_ (hi4.pre p5) (by have:=K.size.1; omega) hfl fun H6 l6 k6=> ?_;exact fin H6 (gy_ (p4.trans p5) l6 fun l hl=>k6 l (by omega))
theorem AX_ {l m:List Nat} (h:l.Perm m):l.sum=m.sum:=by
 induction h with
 | nil=>rfl
 | cons x _ ih=>rw[List.sum_cons,List.sum_cons,ih]
 | swap x y l=>simp only[List.sum_cons]; omega
 | trans _ _ h1 h2=>rw[h1,h2]
theorem xA_ {fs gs:List FileR} (h:fs.Perm gs):d5_ fs=d5_ gs∧e0_ fs=e0_ gs:=by
 refine⟨h.countP_eq _,?_⟩;unfold e0_;exact AX_ ((h.filter _).map _)
theorem sS_ (f:FileR) (fs:List FileR):d5_ (f::fs)=d5_ fs+(match f.2.2 with | true=>1 | false=>0)∧e0_ (f::fs)=e0_ fs+(match f.2.2 with | true=>f.2.1.size | false=>0):=by
 have h:=xA_ (List.perm_append_comm (l₁:=[f]) (l₂:=fs));rw[List.singleton_append] at h;rw[h.1,h.2,lI_,lN_];exact⟨rfl,rfl⟩
theorem rY_:∀ {fs:List FileR} (p:FileR→Bool),d5_ (fs.filter p)≤d5_ fs∧e0_ (fs.filter p)≤e0_ fs
 | [],p=>⟨Nat.le_refl _,Nat.le_refl _⟩
 | f::fs,p=>by
  obtain⟨h1,h2⟩:=rY_ (fs:=fs) p;obtain⟨c1,c2⟩:=sS_ f fs;rw[List.filter_cons];cases p f with
  | true=>
   obtain⟨d1,d2⟩:=sS_ f (fs.filter p);rw[if_pos rfl,c1,c2,d1,d2]; omega
  | false=>rw[if_neg (by simp),c1,c2]; omega
theorem jm_ {st:StD} {s:ByteArray} {i:InfoR} (h:bm_ s 4=true) (hf:cv_ (aA_ st) s=some i):ik_ (some st) s=(d5_ i.files,e0_ i.files,0):=by
 unfold ik_;dsimp only;rw[h];dsimp only;rw[hf]
theorem rL_ {is:List InfoR} (ha:gC_ is) {i:InfoR} (hi:i∈is):cv_ is i.name=some i:=by
 obtain⟨k,hk,rfl⟩:=List.getElem_of_mem hi;have hin:(is.any fun y=>decide (y.name=is[k].name))=true:=List.any_eq_true.2 ⟨_,List.getElem_mem hk,by simp⟩;obtain⟨hp,hf⟩:=r8_ ha hin;rw[hf];have:=rI_ ha hk;simp only[this]
theorem qt_ {st st1:StD} (g:dD_ st) {name path content:ByteArray} (h1:cn_ st (aA_ st)) (hw:d7_ (aA_ st) name path content=0) {y:SnapR} (hy:look st.snaps name=some y) (g1:dD_ (f2_ st y.id path content)) (W:yH_ st (f2_ st y.id path content) y.id path content)
 (his1:cn_ (f2_ st y.id path content) (aA_ st1)):∃ i i1,cv_ (aA_ st) name=some i∧cv_ (aA_ st1) name=some i1∧ch_ st y.id i.files∧ch_ (f2_ st y.id path content) y.id i1.files∧i1.kind=0∧(∀ f,f∈i1.files↔f=(path,content,true)∨(f∈i.files∧f.1≠path))∧d7_ (aA_ st1) name path content=0:=by
 obtain⟨w1,w2,w3,i,hi,hk,hfew⟩:=lJ_ hw;have hym:=dl_ hy;obtain⟨him,hin⟩:=f9_ hi;obtain⟨z,hz,ez,hfz⟩:=h1.get him;have hz2:z.2=y:=by
  have:=gv_ g.sto.nd.snaps hz;rw[show z.1=name by rw[ez] at hin; exact hin,hy] at this;exact (Option.some.inj this).symm
 rw[hz2] at hfz ez;have hkind:y.kind=0:=by rw[ez] at hk; exact hk
 obtain⟨i1,hi1,e1,hf1⟩:=his1.put g1.sto.nd.snaps (x:=(name,y)) (by rw[W.snaps]; exact hym);dsimp only at e1 hf1;have hfi1:cv_ (aA_ st1) name=some i1:=by
  have:=rL_ his1.asc' hi1;rw[show i1.name=name by rw[e1]] at this;exact this
 have hk1:i1.kind=0:=by rw[e1]; exact hkind
 have hmem:=W.own _ _ hfz hf1;refine⟨i,i1,hi,hfi1,hfz,hf1,hk1,hmem,?_⟩;have hany:(i1.files.any fun f=>decide (f.1=path))=true:=List.any_eq_true.2 ⟨(path,content,true),(hmem _).2 (.inl rfl),by simp⟩;have hact:ed_ (aA_ st1) name=0:=by
  unfold ed_;rw[hfi1];dsimp only;rw[show eqI i1.kind 0=true by rw[hk1]; rfl]
 unfold d7_;rw[w1,hact,w2,show leI (sz content) 6=true by simp; omega,hfi1];dsimp only;rw[hany];rfl
theorem zv_ {i i1:InfoR} {path content:ByteArray} (h1:jF_ i.files) (h2:jF_ i1.files) (hmem:∀ f,f∈i1.files↔f=(path,content,true)∨(f∈i.files∧f.1≠path)):
 d5_ i.files≤d5_ i1.files∧d5_ i1.files≤d5_ i.files+1∧content.size≤e0_ i1.files∧1≤d5_ i1.files∧e0_ i1.files≤e0_ i.files+content.size:=by
 have nd:∀ {fs:List FileR},jF_ fs→fs.Nodup:=fun h=>h.imp fun r e=>by rw[e,c4_] at r; cases r
 have hp:i1.files.Perm ((path,content,true)::i.files.filter fun f=> !decide (f.1=path)):=by
  refine (List.perm_ext_iff_of_nodup (nd h2) (List.nodup_cons.2 ⟨fun q=> ?_,(nd h1).filter _⟩)).2 fun f=> ?_
  ·have:=(List.mem_filter.1 q).2;simp at this
  ·rw[hmem,List.mem_cons,List.mem_filter];simp
 obtain⟨e1,e2⟩:=xA_ hp;obtain⟨c1,c2⟩:=sS_ (path,content,true) (i.files.filter fun f=> !decide (f.1=path));dsimp only at c1 c2;obtain⟨f1,f2⟩:=rY_ (fs:=i.files) fun f=> !decide (f.1=path);have hle:d5_ i.files≤d5_ (i.files.filter fun f=> !decide (f.1=path))+1:=by
  have hsplit:d5_ i.files=d5_ (i.files.filter fun f=> !decide (f.1=path))+d5_ (i.files.filter fun f=>decide (f.1=path)):=by
   unfold d5_;rw[List.countP_filter,List.countP_filter,List.countP_eq_countP_filter_add i.files (fun f=>f.2.2) (fun f=> !decide (f.1=path))];rw[List.countP_filter,List.countP_filter];congr 1;apply List.countP_congr;intro f _; simp
  have hone:(i.files.filter fun f=>decide (f.1=path)).length≤1:=by
   have hn:((i.files.filter fun f=>decide (f.1=path)).map (·.1)).Nodup:=by
    unfold List.Nodup;rw[List.pairwise_map];exact (List.Pairwise.filter _ h1).imp fun r q=>by rw[q,c4_] at r; cases r
   have:=(dE_ [path] _ hn fun s hs=>by
    obtain⟨f,hf,rfl⟩:=List.mem_map.1 hs;have:=(List.mem_filter.1 hf).2;simpa using this).1
   rw[List.length_map] at this;simpa using this
  have:d5_ (i.files.filter fun f=>decide (f.1=path))≤(i.files.filter fun f=>decide (f.1=path)).length:=List.countP_le_length;omega
 omega
end
end Go.Am
end
section
set_option maxRecDepth 100000
namespace Go.Am
section
variable {H:Hp} {Q:Post} {x:Pl} {n:Nat} {cs:List PC} {T:List Pg}
theorem ji_ {name path content:ByteArray} (hT:Tr H x n cs T) (hn:n*80≤140737488351232) (hs1:name.size≤140737488351232) (hs2:path.size≤140737488351232) (hQ:∀ H',Q (.g (.bool true)) H'):law23_UsageWritesN [.agg [.sl x n 5],.g (.str name),.g (.str path),.g (.str content)] H Q:=by
 refine⟨1,?_⟩;rw[lk_];refine fB_ fun H1 p1=> ?_;simp only[aK_,al_];rw[aL_ (show (!true)=false from rfl)];refine gO_ (hT.mono p1) hs1 hs2 (fun _ H2 p2=> ?_) (fun st e he _ hne H2 p2=> ?_) (fun st y he hw hy H2 x2 p2 t2=> ?_)
 ·simp only[aR_,aG_,gB_,bA_,as_,b0_,bP_,ak_,aS_];exact aa_ (fun _=>hQ H2) (fun e=>by cases e)
 ·simp only[aR_,aG_,gB_,bA_,as_,b0_,bP_,ak_,aS_];exact aa_ (fun _=>hQ H2) (fun q=>by exact absurd (by simpa using q) hne)
 ·simp only[aR_,aG_,gB_,bA_,as_,b0_,bP_,ak_,aS_];rw[aL_ (show (!(eqI 0 0))=false from rfl)];have K:=gx_ he;have hm:=K.many;unfold eE_ at hm;obtain⟨g1,W⟩:=mX_ K.good K.infos (by omega) hw hy;obtain⟨st1,es1,his1,hsn1,_⟩:=p3_ g1;obtain⟨cs1,T1,hT1,ho1⟩:=nb_ t2;rw[es1] at ho1;have K1:=gx_ ho1;obtain⟨i,i1,hf,hf1,hfi,hfi1,hk1,hmem,hw1⟩:=qt_ K.good K.infos hw hy g1 W his1;obtain⟨o1,o2,o3,o4,o5⟩:=zv_ hfi.asc hfi1.asc hmem;obtain⟨w1,w2,w3,_⟩:=lJ_ hw;have u0:c2_ T name=(d5_ i.files,e0_ i.files,0):=by rw[i8_,he]; exact jm_ w1 hf
  have u1:c2_ T1 name=(d5_ i1.files,e0_ i1.files,0):=by rw[i8_,ho1]; exact jm_ w1 hf1
  have bd:∀ {T:List Pg} {st:StD},Cz_ T st→∀ i∈aA_ st,d5_ i.files≤60∧e0_ i.files≤360:=fun {T st} K i hi=>by
   obtain⟨b1,b2⟩:=ip_ K.good.sto.ok i hi;have:=pm_ b2;have hm:=K.many;unfold eE_ at hm;omega
  have bd0:=bd K i (f9_ hf).1;refine gO_ hT1 hs1 hs2 (fun q=>by rw[ho1] at q; cases q) (fun st' e' q1 q2 q3=>by rw[ho1] at q1; cases q1; exact absurd (by rw[←q2,hw1]) q3) (fun st' y1 q1 _ hy1 H3 x3 p3 t3=> ?_);rw[ho1] at q1;cases q1;simp only[aR_,aG_,gB_,bA_,as_,b0_,bP_,ak_,aS_];have hm1:=K1.many;unfold eE_ at hm1;obtain⟨g2,W2⟩:=mX_ K1.good K1.infos (by omega) hw1 hy1;obtain⟨st2,es2,his2,hsn2,_⟩:=p3_ g2;obtain⟨cs2,T2,hT2,ho2⟩:=nb_ t3;rw[es2] at ho2;obtain⟨j1,i2,hfj,hf2,hfj1,hfi2,hk2,hmem2,_⟩:=qt_ K1.good K1.infos hw1 hy1 g2 W2 his2;rw[hf1] at hfj;cases hfj;have hsame:i2.files=i1.files:=hfi2.asc.ext hfi1.asc fun f=>by
   rw[hmem2,hmem];constructor
   ·rintro (q | ⟨q,z⟩)
    ·exact .inl q
    ·exact q
   ·rintro (q | ⟨q,z⟩)
    ·exact .inl q
    ·exact .inr ⟨.inr ⟨q,z⟩,z⟩
  have u2:c2_ T2 name=(d5_ i1.files,e0_ i1.files,0):=by rw[i8_,ho2,jm_ w1 hf2,hsame]
  refine cu_ (hT.mono (p1.trans (p2.trans p3))) hs1 fun H4 p4=> ?_;rw[u0];simp only[aR_,aG_,bP_,ak_,aS_];refine cu_ (hT1.mono (p3.trans p4)) hs1 fun H5 p5=> ?_;rw[u1];simp only[aR_,aG_,bP_,ak_,aS_];refine cu_ (hT2.mono (p4.trans p5)) hs1 fun H6 p6=> ?_;rw[u2];simp only[aR_,aG_,bP_,ak_,aS_];rw[aL_ (show (!(eqI 0 0))=false from rfl)];refine bC_ ?_;simp only[aK_,ak_];rw[aL_ (show (!(eqI 0 0))=false from rfl)];refine bC_ ?_;simp only[aK_,ak_];rw[aL_ (show (!(eqI 0 0))=false from rfl)];refine bC_ ?_;simp only[aK_,ak_];rw[aL_ (show (!(eqI 0 0))=false from rfl)];rw[aL_ (by simp),aL_ (by simp)];rw[ar_ (by omega)];rw[aQ_ (by simp; omega),aQ_ (by simp; omega),aQ_ (by simp; omega),aQ_ (by simp; omega)];rw[cJ_ (by simp; omega) (by simp; omega)];rw[show leI ((e0_ i1.files:Nat):Int) (((e0_ i.files:Nat):Int)+sz content)=true by simp; omega];exact hQ H6
theorem jJ_ {name parent:ByteArray} (hT:Tr H x n cs T) (hn:n*80≤140737488351232) (hs1:name.size≤140737488351232) (hs2:parent.size≤140737488351232) (hQ:∀ H',Q (.g (.bool true)) H'):law23_UsageChildN [.agg [.sl x n 5],.g (.str name),.g (.str parent)] H Q:=by
 refine⟨1,?_⟩;rw[md_];refine fB_ fun H1 p1=> ?_;simp only[aK_,al_];rw[aL_ (show (!true)=false from rfl)];refine ig_ (hT.mono p1) hs1 hs2 (fun _ H2 p2=> ?_) (fun st e he _ hne H2 p2=> ?_) (fun st he hw H2 x2 p2 t2=> ?_)
 ·simp only[aR_,aG_,gB_,bA_,as_,b0_,bP_,ak_,aS_];exact aa_ (fun _=>hQ H2) (fun e=>by cases e)
 ·simp only[aR_,aG_,gB_,bA_,as_,b0_,bP_,ak_,aS_];exact aa_ (fun _=>hQ H2) (fun q=>by exact absurd (by simpa using q) hne)
 ·simp only[aR_,aG_,gB_,bA_,as_,b0_,bP_,ak_,aS_];rw[aL_ (show (!(eqI 0 0))=false from rfl)];have K:=gx_ he;have P:=op_ K.good K.many K.infos hw;obtain⟨st1,es1,his1,hsn1,_⟩:=p3_ P.good;obtain⟨cs1,T1,hT1,ho1⟩:=nb_ t2;rw[es1] at ho1;obtain⟨w1,_⟩:=tF_ hw;obtain⟨i,hi,ei,hfi⟩:=his1.put P.good.sto.nd.snaps (x:=(name,⟨da_ st,0,parent,mkS []⟩)) (by rw[P.snaps]; simp);dsimp only at ei hfi;have hf:cv_ (aA_ st1) name=some i:=by
   have:=rL_ his1.asc' hi;rw[show i.name=name by rw[ei]] at this;exact this
  have hbare:=P.bare _ hfi;have z1:d5_ i.files=0:=by
   unfold d5_;rw[List.countP_eq_zero];intro f hff e;rw[hbare f hff] at e; cases e
  have z2:e0_ i.files=0:=by
   unfold e0_;rw[List.filter_eq_nil_iff.2 fun f hff e=>by rw[hbare f hff] at e; cases e];rfl
  have u1:c2_ T1 name=(0,0,0):=by rw[i8_,ho1,jm_ w1 hf,z1,z2]
  have hlen:(aA_ st1).length=(aA_ st).length+1:=by
   unfold aA_;rw[List.length_map,List.length_map,hsn1.length_eq,P.snaps,List.length_append]; rfl
  refine cu_ hT1 hs1 fun H3 p3=> ?_;rw[u1];simp only[aR_,aG_,bP_,ak_,aS_];refine d9_ (hT1.mono p3) (fun q=>by rw[ho1] at q; cases q) (fun st' q H4 b4 a4 p4 _ _=> ?_);rw[ho1] at q;cases q;simp only[aR_,aG_,bP_,as_,ak_,aS_];refine d9_ (hT.mono (p1.trans (p2.trans (p3.trans p4)))) (fun q=>by rw[he] at q; cases q) (fun st' q H5 b5 a5 p5 _ _=> ?_);rw[he] at q;cases q;simp only[aR_,aG_,bP_,as_,ak_,aS_];rw[aQ_ (by decide),aQ_ (by decide)];refine bC_ ?_;simp only[aK_,ak_];rw[aQ_ (show eqI 0 0=true from rfl)];refine bC_ ?_;simp only[aK_,ak_];rw[aQ_ (show eqI 0 0=true from rfl)];refine bC_ ?_;simp only[aK_,ak_];rw[aQ_ (show eqI 0 0=true from rfl),hlen];have hsz:=K.size.1;rw[show ad_ .i64 ((nI (aA_ st).length)+1)=(((aA_ st).length+1:Nat):Int) from ar_ (by omega)];rw[show eqI (nI ((aA_ st).length+1)) (((aA_ st).length+1:Nat):Int)=true by simp];exact hQ H5
theorem oQ_ (hT:Tr H x n cs T) (hQ:∀ H' b,H<+:H'→(b=true→∃ st,ofD T=some st∧ee_ st=none)→Q (.g (.bool b)) H'):eF_ [.agg [.sl x n 5]] H Q:=by
 refine⟨1,?_⟩;rw[sv_];refine fU_ hT (fun e H' p hp=> ?_) (fun st e B H' sp a1 n1 a2 n2 a3 n3 hB hR=> ?_)
 ·simp only[aR_,aG_,bP_,gz_,al_,aS_];exact aa_ (fun e=>by cases e) (fun _=>hQ H' false hp fun e=>by cases e)
 ·simp only[aR_,aG_,bP_,gz_,al_,aS_];refine aa_ (fun _=> ?_) (fun e=>by cases e);have K:=gx_ e;have hm:=K.many;unfold eE_ at hm;refine e6_ hR ⟨by omega,by omega⟩ ?_;simp only[aK_,ak_];refine hQ H' _ (hB.trans hR.pre) fun hb=>⟨st,e,?_⟩;cases ho:ee_ st with
  | none=>rfl
  | some i=>
   have:gA_ st=((i:Nat):Int):=by unfold gA_; unfold ee_ at ho; rw[ho]
   rw[this] at hb;simp at hb;omega
theorem kE_ (hT:Tr H x n cs T) (hn:n*80≤140737488351232) (hQ:∀ H',Q (.g (.bool true)) H'):law23_UsageAllN [.agg [.sl x n 5]] H Q:=by
 refine⟨1000,?_⟩;rw[oJ_];have etn:∀ k:Nat,tN (k:Int)=k:=fun _=>rfl;refine fB_ fun H1 p1=> ?_;simp only[aK_,al_];rw[aL_ (show (!true)=false from rfl)];refine d9_ (hT.mono p1) (fun _ H2 p2=> ?_) (fun st he H2 b a p2 hb hi=> ?_)
 ·simp only[aR_,aG_,bP_,as_,ak_,aS_];refine bC_ ?_;simp only[aK_,ak_];rw[aQ_ (by decide)];exact hQ H2
 ·simp only[aR_,aG_,bP_,as_,ak_,aS_];refine bC_ ?_;simp only[aK_,ak_];rw[aL_ (by decide)];have K:=gx_ he;have hm:=K.many;unfold eE_ at hm;have few:(aA_ st).length≤6:=by have:=K.good.few; unfold aA_; rw[List.length_map]; exact this
  have go:∀ (f k F:Nat) (G:Hp),f=(aA_ st).length - k→k≤(aA_ st).length→f*100+1≤F→H2<+:G→aY_.l7 aI_ F x n a (aA_ st).length ((k:Nat):Int) G Q:=by
   intro f;induction f with
   | zero=>
    intro k F G hf hk hF hG;obtain⟨F,rfl⟩:∃ G,F=G+1:=⟨F - 1,by omega⟩;rw[aY_.l7_eq];refine aa_ (fun e=>by simp at e<;>omega) (fun _=> ?_);refine oQ_ (hT.mono (p1.trans (p2.trans hG))) fun H' b _ _=> ?_;simp only[aK_,al_];refine aa_ (fun _=>hQ H') (fun _=> ?_);rw[show leI (nI (aA_ st).length) 6=true by simp; omega];exact hQ H'
   | succ f ih=>
    intro k F G hf hk hF hG;have hkl:k < (aA_ st).length:=by omega
    obtain⟨F,rfl⟩:∃ G,F=G+1:=⟨F - 1,by omega⟩;rw[aY_.l7_eq];refine aa_ (fun _=> ?_) (fun e=>by simp at e<;>omega);obtain⟨l,o,p,e1,r1,r2,r3,r4,r5,r6⟩:=(hi.rd.pre hG) _ hkl;have hmem:=List.getElem_mem hkl;generalize hi0:(aA_ st)[k]=i at r1 r2 r3 r4 r5 r6 hmem;obtain⟨b1,b2⟩:=ip_ K.good.sto.ok i hmem;obtain⟨z,hz,ez,hfz⟩:=K.infos.get hmem;have hok:=K.good.info z hz _ hfz;rw[←ez] at hok;obtain⟨k1,k2,k3,k4,k5⟩:=(eQ_ hfz.asc).1 hok;have hu:c2_ T i.name=(d5_ i.files,e0_ i.files,0):=by
     rw[i8_,he];exact jm_ k1 (rL_ K.asc hmem)
    have hbd:=pm_ b2;rw[e1];have go11:∀ (g j F':Nat),g=i.files.length - j→j≤i.files.length→g+(f*100+1)+1≤F'→
     aY_.l11 aI_ F' x n (some (l,o)) (aA_ st).length ((k:Nat):Int) ((d5_ (i.files.take j):Nat):Int) ((e0_ (i.files.take j):Nat):Int) ((j:Nat):Int) G Q:=by
     intro g;induction g with
     | zero=>
      intro j F' hg hj hF';obtain⟨F',rfl⟩:∃ G,F'=G+1:=⟨F' - 1,by omega⟩;rw[aY_.l11_eq];refine ab_ rfl (ab_ (by simp; omega) ?_);simp only[ah_,etn];rw[ag_ (show gt G l (o+k*5+4)=some (.sl p i.files.length 3) from r5),as_];refine aa_ (fun e=>by simp at e<;>omega) (fun _=> ?_);rw[List.take_of_length_le (by omega)];refine ab_ rfl (ab_ (by simp; omega) ?_);simp only[Nat.add_zero];rw[ag_ r1,aB_];refine cu_ (hT.mono (p1.trans (p2.trans hG))) (by have:=et_ k1; omega) fun G1 pG1=> ?_;rw[hu];simp only[aR_,aG_,bP_,ak_,aS_];refine bC_ ?_;simp only[aK_,ak_];rw[aL_ (show (!(eqI 0 0))=false from rfl),aL_ (by simp),aL_ (by simp)];refine ab_ rfl (ab_ (by simp; omega) ?_);rw[ag_ (dF_ pG1 r2),ak_];have next:aY_.l7 aI_ F' x n (some (l,o)) (aA_ st).length (ad_ .i64 (((k:Nat):Int)+1)) G1 Q:=by
       rw[ar_ (by omega),←e1];exact ih (k+1) F' G1 (by omega) hkl (by omega) (hG.trans pG1)
      refine aa_ (fun e=> ?_) (fun _=>next);have hk1':i.kind=1:=by simpa using e
      have hz0:d5_ i.files=0:=by
       unfold d5_;rw[List.countP_eq_zero];intro f hff e;have:=k4 f hff;unfold du_ at this;rw[hk1',e] at this;simp at this
      refine aa_ (fun e=> ?_) (fun _=>next);rw[hz0] at e;simp at e
     | succ g ihg=>
      intro j F' hg hj hF';have hjl:j < i.files.length:=by omega
      obtain⟨F',rfl⟩:∃ G,F'=G+1:=⟨F' - 1,by omega⟩;rw[aY_.l11_eq];refine ab_ rfl (ab_ (by simp; omega) ?_);simp only[ah_,etn];have r5':gt G l (o+k*5+4)=some (.sl p i.files.length 3):=r5;rw[ag_ r5',as_];refine aa_ (fun _=> ?_) (fun e=>by simp at e<;>omega);refine ab_ rfl (ab_ (by simp; omega) ?_);rw[ag_ r5',as_];refine ab_ rfl (ab_ (by simp; omega) ?_);obtain⟨l2,o2,e2,q1,q2,q3⟩:=r6 _ hjl;subst e2;simp only[ah_,etn];rw[ag_ (show gt G l2 (o2+j*3+2)=some (.bool i.files[j].2.2) from q3),al_];have w1:ad_ .i64 (((j:Nat):Int)+1)=((j+1:Nat):Int):=ar_ (by omega);rw[w1];have bd:=pm_ (fs:=i.files.take j) fun f hf=>b2 f (List.mem_of_mem_take hf);have ht:(i.files.take j).length=j:=by rw[List.length_take]; omega
      have hsz:=b2 _ (List.getElem_mem hjl);have n1:=lI_ (i.files.take j) i.files[j];have n2:=lN_ (i.files.take j) i.files[j];rw[show i.files.take j++[i.files[j]]=i.files.take (j+1) from by rw[List.take_add_one,List.getElem?_eq_getElem hjl]; rfl] at n1 n2;have key:=ihg (j+1) F' (by omega) hjl (by omega);refine aa_ (fun e=> ?_) (fun e=> ?_)
      ·rw[e] at n1 n2;dsimp only at n1 n2;rw[n1,n2] at key;refine ab_ rfl (ab_ (by simp; omega) ?_);rw[ag_ r5',as_];refine ab_ rfl (ab_ (by simp; omega) ?_);simp only[ah_,etn];rw[ag_ q2,aB_];rw[show ad_ .i64 (((d5_ (i.files.take j):Nat):Int)+1)=((d5_ (i.files.take j)+1:Nat):Int) from ar_ (by omega)];rw[show ad_ .i64 (((e0_ (i.files.take j):Nat):Int)+sz i.files[j].2.1)=((e0_ (i.files.take j)+i.files[j].2.1.size:Nat):Int) by rw[cJ_ (by simp; omega) (by simp; omega)]; simp];exact key
      ·rw[e] at n1 n2;dsimp only at n1 n2;rw[n1,n2] at key;exact key
    exact go11 _ 0 F rfl (Nat.zero_le _) (by omega)
  exact go _ 0 999 H2 rfl (Nat.zero_le _) (by omega) (List.prefix_refl _)
end
end Go.Am
end
